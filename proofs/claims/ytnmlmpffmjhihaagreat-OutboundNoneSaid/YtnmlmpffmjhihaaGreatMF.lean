/-
  Merged: Tables of bytes: a table is made plain: the document's way, plain and its contract (chapter 3). | Tables of bytes: the two ways to make a table plain are one; the document's rank: contract (chapter 3). | Tables of bytes: the document's inverse: contract (chapter 3). | Tables of bytes: products: plain; the program's contract (chapter 3).
-/
import Derived.Test.YtnmlmpffmjhihaaGreatME
namespace Go.Proofs.YtnmlmpffmjhihaaGreat
open Go.RowKit
set_option linter.unusedVariables false
set_option maxRecDepth 100000
set_option maxHeartbeats 4000000
def rstep (row place : Nat) (R : Tab) (i : Nat) : Tab := if i = row then R else addR R (entM R i place) i row
def rclr (row place : Nat) (R : Tab) (m : Nat) : Tab := (List.range m).foldl (rstep row place) R
theorem rclr_succ (row place : Nat) (R : Tab) (m : Nat) : rclr row place R (m + 1) = rstep row place (rclr row place R m) m := by
  unfold rclr
  rw [List.range_succ, List.foldl_append]
  rfl
theorem rstep_len (row place : Nat) (R : Tab) (i : Nat) : (rstep row place R i).length = R.length := by
  unfold rstep
  split
  · rfl
  · exact addR_length _ _ _ _
theorem rclr_len (row place : Nat) (R : Tab) : ∀ m, (rclr row place R m).length = R.length
  | 0 => rfl
  | m + 1 => by rw [rclr_succ, rstep_len, rclr_len row place R m]
theorem rclr_wide {row place x : Nat} {R : Tab} (h : Wide R x) (hr : row < R.length) : ∀ m, m ≤ R.length → Wide (rclr row place R m) x
  | 0, _ => h
  | m + 1, hm => by
    rw [rclr_succ]
    have h1 := rclr_wide (place := place) h hr m (by omega)
    have h2 := rclr_len row place R m
    unfold rstep
    split
    · exact h1
    · exact addR_wide h1 (by omega) (by omega)
def rput (a i place : Nat) (M : Tab) : Tab := (M.set i (M.getD a [])).set a (scaleL (gi (entM M i place)) (M.getD i []))
theorem rput_len (a i place : Nat) (M : Tab) : (rput a i place M).length = M.length := by simp [rput]
theorem rput_wide {a i place x : Nat} {M : Tab} (h : Wide M x) (ha : a < M.length) (hi : i < M.length) : Wide (rput a i place M) x := by
  unfold rput
  rw [getD_get M a _ ha, getD_get M i _ hi]
  exact (h.set (h a ha)).set (by rw [scaleL_length]; exact h i hi)
def rstepP (s : Nat × Tab) (place : Nat) : Nat × Tab :=
  if s.1 = s.2.length then s else match pivL s.2 s.1 place with
    | none => s
    | some i => (s.1 + 1, rclr s.1 place (rput s.1 i place s.2) s.2.length)
def rred (M : Tab) (p : Nat) : Nat × Tab := (List.range p).foldl rstepP (0, M)
theorem rred_succ (M : Tab) (p : Nat) : rred M (p + 1) = rstepP (rred M p) p := by
  unfold rred
  rw [List.range_succ, List.foldl_append]
  rfl
theorem rstepP_full {s : Nat × Tab} (h : s.1 = s.2.length) (p : Nat) : rstepP s p = s := by unfold rstepP; rw [if_pos h]
theorem rstepP_none {s : Nat × Tab} (h : s.1 ≠ s.2.length) (p : Nat) (hp : pivL s.2 s.1 p = none) : rstepP s p = s := by unfold rstepP; rw [if_neg h, hp]
theorem rstepP_some {s : Nat × Tab} (h : s.1 ≠ s.2.length) (p i : Nat) (hp : pivL s.2 s.1 p = some i) : rstepP s p = (s.1 + 1, rclr s.1 p (rput s.1 i p s.2) s.2.length) := by unfold rstepP; rw [if_neg h, hp]
theorem rred_full {M : Tab} {p : Nat} (h : (rred M p).1 = (rred M p).2.length) : ∀ k, rred M (p + k) = rred M p
  | 0 => rfl
  | k + 1 => by
    rw [← Nat.add_assoc, rred_succ, rred_full h k]
    exact rstepP_full h _
theorem rstepP_inv {s : Nat × Tab} {p x n : Nat} (h1 : s.2.length = n) (ha : s.1 ≤ n) (hx : Wide s.2 x) : (rstepP s p).2.length = n ∧ (rstepP s p).1 ≤ n ∧ Wide (rstepP s p).2 x := by
  by_cases hf : s.1 = s.2.length
  · rw [rstepP_full hf]; exact ⟨h1, ha, hx⟩
  · cases hp : pivL s.2 s.1 p with
    | none => rw [rstepP_none hf p hp]; exact ⟨h1, ha, hx⟩
    | some i =>
      rw [rstepP_some hf p i hp]
      have hs := pivL_spec hp
      have l1 : (rput s.1 i p s.2).length = n := by rw [rput_len, h1]
      have w1 := rput_wide (a := s.1) (i := i) (place := p) hx (by omega) (by omega)
      exact ⟨(rclr_len _ _ _ _).trans l1, by show s.1 + 1 ≤ n; omega, rclr_wide w1 (by omega) _ (by omega)⟩
theorem rred_inv {M : Tab} {x n : Nat} (h1 : M.length = n) (hx : Wide M x) : ∀ p, (rred M p).2.length = n ∧ (rred M p).1 ≤ n ∧ Wide (rred M p).2 x
  | 0 => ⟨h1, Nat.zero_le _, hx⟩
  | p + 1 => by
    rw [rred_succ]
    have h := rred_inv h1 hx p
    exact rstepP_inv h.1 h.2.1 h.2.2
theorem SegM.cap {w : World} {base n cap : Nat} {a : Option Addr} {rows : Tab} (h : SegM w base (.slice a n cap) rows) : n ≤ cap ∧ cap ≤ maxLen := by
  obtain ⟨vs, h1, h2, _⟩ := h.mat
  obtain ⟨a', c', e, h3, h4, _⟩ := h2
  cases e
  exact ⟨h3, h4⟩
theorem AddPost.eq {w w' : World} {a b : List Nat} {e : Ending} {c x : Nat} (h : AddPost w a (scaleL c b) e w') (ha : a.length = x) (hb : b.length = x) :
    ∃ a3 c3, e = .returned (.tuple #[.slice a3 x c3, .int .i64 0]) ∧ RowAt 0 w' (.slice a3 x c3) (mulAddL a c b) ∧ Below w.heap.size w w' := by
  have hlen : a.length = (scaleL c b).length := by rw [scaleL_length, ha, hb]
  obtain ⟨v, rfl, hr, hB⟩ := h
  have hV : addV a (scaleL c b) = mulAddL a c b := by unfold addV; rw [if_pos hlen]; rfl
  have hE : lenE a (scaleL c b) = 0 := by unfold lenE; rw [if_pos hlen]
  rw [hV] at hr
  obtain ⟨a3, c3, rfl, -⟩ := hr.at
  have hx : (mulAddL a c b).length = x := by unfold mulAddL; rw [addL_length _ _ hlen, ha]
  rw [hx] at hr ⊢
  exact ⟨a3, c3, by rw [hE], hr, hB⟩
def RedPost (M : Tab) (p n : Nat) (w : World) (e : Ending) (w' : World) : Prop :=
  ∃ g off cap, e = .returned (.tuple #[.slice (some ⟨g, off, none⟩) n cap, .int .i64 ((rred M p).1 : Nat)]) ∧ OwnM w' g off (rred M p).2 ∧ w.heap.size ≤ g ∧ n ≤ cap ∧ cap ≤ maxLen ∧ Below w.heap.size w w'
end Go.Proofs.YtnmlmpffmjhihaaGreat
namespace Go.Proofs.YtnmlmpffmjhihaaGreat
open Go.RowKit
set_option linter.unusedVariables false
set_option maxRecDepth 100000
set_option maxHeartbeats 2000000
/-- Two tables side by side. -/
def zw (M O : Tab) : Tab := List.zipWith (fun r s => r ++ s) M O
theorem zw_length {M O : Tab} (h : O.length = M.length) : (zw M O).length = M.length := by simp [zw]; omega
theorem zw_get {M O : Tab} (h : O.length = M.length) (i : Nat) (hi : i < M.length) : (zw M O)[i]'(by rw [zw_length h]; exact hi) = M[i] ++ O[i] := by simp [zw]
theorem zw_getD {M O : Tab} (h : O.length = M.length) (i : Nat) : (zw M O).getD i [] = M.getD i [] ++ O.getD i [] := by
  by_cases hi : i < M.length
  · rw [getD_get _ i [] (by rw [zw_length h]; exact hi), getD_get M i [] hi, getD_get O i [] (by omega), zw_get h i hi]
  · have h1 : (zw M O)[i]? = none := List.getElem?_eq_none (by rw [zw_length h]; omega)
    have h2 : M[i]? = none := List.getElem?_eq_none (by omega)
    have h3 : O[i]? = none := List.getElem?_eq_none (by omega)
    simp [List.getD, h1, h2, h3]
theorem zw_set {M O : Tab} (h : O.length = M.length) (i : Nat) (r s : List Nat) : (zw M O).set i (r ++ s) = zw (M.set i r) (O.set i s) := by
  apply List.ext_getElem
  · rw [List.length_set, zw_length h, zw_length (by simpa using h), List.length_set]
  · intro j h1 h2
    rw [List.length_set, zw_length h] at h1
    rw [zw_get (by simpa using h) j (by simpa using h1)]
    by_cases e : i = j
    · subst e; simp
    · rw [List.getElem_set_ne e, List.getElem_set_ne e, List.getElem_set_ne e, zw_get h j h1]
theorem zw_wide {M O : Tab} {x y : Nat} (h : O.length = M.length) (hx : Wide M x) (hy : Wide O y) : Wide (zw M O) (x + y) := fun i hi => by
  rw [zw_length h] at hi
  rw [zw_get h i hi, List.length_append, hx i hi, hy i (by omega)]
theorem entM_zw {M O : Tab} {x : Nat} (h : O.length = M.length) (hx : Wide M x) (i j : Nat) (hi : i < M.length) (hj : j < x) : entM (zw M O) i j = entM M i j := by
  unfold entM
  rw [zw_getD h, getD_get M i [] hi]
  have hl := hx i hi
  simp only [List.getD]
  rw [List.getElem?_append_left (by omega)]
theorem pivN_zw {M O : Tab} {x : Nat} (h : O.length = M.length) (hx : Wide M x) (j : Nat) (hj : j < x) : ∀ k i, i + k ≤ M.length → pivN (zw M O) j k i = pivN M j k i
  | 0, _, _ => rfl
  | k + 1, i, hi => by
    show (if entM (zw M O) i j = 0 then _ else _) = (if entM M i j = 0 then _ else _)
    rw [entM_zw h hx i j (by omega) hj, pivN_zw h hx j hj k (i + 1) (by omega)]
theorem pivL_zw {M O : Tab} {x : Nat} (h : O.length = M.length) (hx : Wide M x) (a j : Nat) (ha : a ≤ M.length) (hj : j < x) : pivL (zw M O) a j = pivL M a j := by
  unfold pivL
  rw [zw_length h]
  exact pivN_zw h hx j hj _ _ (by omega)
theorem scaleL_app (c : Nat) (r s : List Nat) : scaleL c (r ++ s) = scaleL c r ++ scaleL c s := by simp [scaleL]
theorem mulAddL_app (r s r' s' : List Nat) (c : Nat) (h : r.length = r'.length) : mulAddL (r ++ s) c (r' ++ s') = mulAddL r c r' ++ mulAddL s c s' := by
  unfold mulAddL addL
  rw [scaleL_app, List.zipWith_append (by rw [scaleL_length]; exact h)]
theorem mulAddL_zero (r s : List Nat) (h : r.length = s.length) : mulAddL r 0 s = r := by
  unfold mulAddL addL
  apply List.ext_getElem
  · simp [scaleL]; omega
  · intro j h1 h2
    simp [scaleL, gm_zero_left]
theorem addR_zero {R : Tab} {x i row : Nat} (h : Wide R x) (hi : i < R.length) (hr : row < R.length) : addR R 0 i row = R := by
  unfold addR
  rw [getD_get R i _ hi, getD_get R row _ hr, mulAddL_zero _ _ (by rw [h i hi, h row hr])]
  simp
theorem addR_zw {M O : Tab} {x : Nat} (h : O.length = M.length) (hx : Wide M x) (c i row : Nat) (hi : i < M.length) (hr : row < M.length) : addR (zw M O) c i row = zw (addR M c i row) (addR O c i row) := by
  unfold addR
  rw [zw_getD h, zw_getD h, mulAddL_app _ _ _ _ _ (by rw [getD_get M i _ hi, getD_get M row _ hr, hx i hi, hx row hr]), zw_set h]
/-- What a step of the clearing does to the one side. -/
theorem stepC_nz (row place : Nat) (M O : Tab) (i x y : Nat) (hl : O.length = M.length) (hx : Wide M x) (hy : Wide O y) (hi : i < M.length) (hr : row < M.length) :
    stepC row place (M, O) i = (rstep row place M i, if i = row then O else addR O (entM M i place) i row) := by
  unfold stepC rstep
  by_cases h1 : i = row
  · rw [if_pos (.inl h1), if_pos h1, if_pos h1]
  · rw [if_neg h1, if_neg h1]
    by_cases h2 : entM M i place = 0
    · rw [if_pos (.inr h2)]
      show (M, O) = _
      rw [h2, addR_zero hx hi hr, addR_zero hy (by omega) (by omega)]
    · rw [if_neg (by rintro (h | h); exact h1 h; exact h2 h)]
theorem rstep_zw {M O : Tab} {x y : Nat} (h : O.length = M.length) (hx : Wide M x) (hy : Wide O y) (row place i : Nat) (hp : place < x) (hi : i < M.length) (hr : row < M.length) :
    rstep row place (zw M O) i = zw (stepC row place (M, O) i).1 (stepC row place (M, O) i).2 := by
  rw [stepC_nz row place M O i x y h hx hy hi hr]
  unfold rstep
  by_cases h1 : i = row
  · simp only [if_pos h1]
  · simp only [if_neg h1]
    rw [entM_zw h hx i place hi hp, addR_zw h hx _ _ _ hi hr]
theorem rput_swap (M O : Tab) (a i place : Nat) (ha : a < M.length) (hi : i < M.length) : rput a i place M = scR (gi (entM (swapL M a i) a place)) a (swapL M a i) := by
  have h1 : entM (swapL M a i) a place = entM M i place := entM_swap M a i place ha hi
  have h2 : (swapL M a i).getD a [] = M.getD i [] := by
    unfold swapL
    rw [getD_get M i _ hi, getD_get M a _ ha]
    rw [getD_get _ a _ (by simpa using ha)]
    by_cases e : i = a
    · subst e; simp
    · rw [List.getElem_set_ne e]; simp
  unfold scR rput
  rw [h1, h2]
  unfold swapL
  by_cases e : i = a
  · subst e; simp
  · rw [List.set_comm _ _ (Ne.symm e), List.set_set]
theorem scR_zw {M O : Tab} (h : O.length = M.length) (c row : Nat) : scR c row (zw M O) = zw (scR c row M) (scR c row O) := by
  unfold scR
  rw [zw_getD h, scaleL_app, zw_set h]
theorem swapL_zw {M O : Tab} (h : O.length = M.length) (a i : Nat) : swapL (zw M O) a i = zw (swapL M a i) (swapL O a i) := by
  unfold swapL
  rw [zw_getD h, zw_getD h, zw_set h, zw_set (by simpa using h)]
theorem rclr_zw {M O : Tab} {x y : Nat} (h : O.length = M.length) (hx : Wide M x) (hy : Wide O y) (row place : Nat) (hp : place < x) (hr : row < M.length) : ∀ m, m ≤ M.length →
    rclr row place (scR (gi (entM M row place)) row (zw M O)) m = zw (clearSo row place M O m).1 (clearSo row place M O m).2
  | 0, _ => scR_zw h _ _
  | m + 1, hm => by
    rw [rclr_succ, rclr_zw h hx hy row place hp hr m (by omega), clearSo_succ]
    have hc := clearSo_len row place M O m
    have hw := clearSo_wide (row := row) (place := place) hx hy h hr m (by omega)
    exact rstep_zw (by rw [hc.1, hc.2, h]) hw.1 hw.2 row place m hp (by rw [hc.1]; omega) (by rw [hc.1]; exact hr)
theorem rstepP_zw {a : Nat} {M O : Tab} {x y : Nat} (h : O.length = M.length) (hx : Wide M x) (hy : Wide O y) (ha : a ≤ M.length) (p : Nat) (hp : p < x) :
    rstepP (a, zw M O) p = ((stepP (a, (M, O)) p).1, zw (stepP (a, (M, O)) p).2.1 (stepP (a, (M, O)) p).2.2) := by
  by_cases hf : a = M.length
  · rw [rstepP_full (by show a = (zw M O).length; rw [zw_length h]; exact hf), stepP_full (by exact hf)]
  · cases hpc : pivL M a p with
    | none => rw [rstepP_none (by show a ≠ (zw M O).length; rw [zw_length h]; exact hf) p (by show pivL (zw M O) a p = none; rw [pivL_zw h hx a p ha hp, hpc]), stepP_none (by exact hf) p hpc]
    | some i =>
      have hs := pivL_spec hpc
      have haL : a < M.length := by omega
      rw [rstepP_some (by show a ≠ (zw M O).length; rw [zw_length h]; exact hf) p i (by show pivL (zw M O) a p = some i; rw [pivL_zw h hx a p ha hp, hpc]), stepP_some (by exact hf) p i hpc]
      show (a + 1, rclr a p (rput a i p (zw M O)) (zw M O).length) = (a + 1, zw (clearL a p (swapL M a i) (swapL O a i)).1 (clearL a p (swapL M a i) (swapL O a i)).2)
      have w1 := swapL_wide (i := a) (k := i) hx haL hs.2.1
      have w2 := swapL_wide (i := a) (k := i) hy (by omega) (by omega)
      have l1 : (swapL O a i).length = (swapL M a i).length := by rw [swapL_length, swapL_length, h]
      rw [rput_swap (zw M O) O a i p (by rw [zw_length h]; exact haL) (by rw [zw_length h]; exact hs.2.1), swapL_zw h, entM_zw l1 w1 a p (by rw [swapL_length]; exact haL) hp]
      unfold clearL
      rw [zw_length h, swapL_length, rclr_zw l1 w1 w2 a p hp (by rw [swapL_length]; exact haL) M.length (by rw [swapL_length]; exact Nat.le_refl _)]
theorem rred_zw {M O : Tab} {x y : Nat} (h : O.length = M.length) (hx : Wide M x) (hy : Wide O y) : ∀ p, p ≤ x → rred (zw M O) p = ((redSo M O p).1, zw (redSo M O p).2.1 (redSo M O p).2.2)
  | 0, _ => rfl
  | p + 1, hp => by
    have hi := redSo_inv rfl h hx hy p
    rw [rred_succ, rred_zw h hx hy p (by omega), redSo_succ]
    exact rstepP_zw (by rw [hi.1, hi.2.1]) hi.2.2.2.1 hi.2.2.2.2 (by rw [hi.1]; exact hi.2.2.1) p (by omega)
theorem zw_nil (M : Tab) : zw M (List.replicate M.length []) = M := by
  apply List.ext_getElem
  · rw [zw_length (by simp)]
  · intro j h1 h2
    rw [zw_get (by simp) j h2]
    simp
theorem rankM_eq {rows : Tab} {x : Nat} (hx : Wide rows x) : (rred rows x).1 = (redSo rows (List.replicate rows.length []) x).1 := by
  have := rred_zw (O := List.replicate rows.length []) (by simp) hx (wide_nil rows.length) x (Nat.le_refl _)
  rw [zw_nil] at this
  rw [this]
end Go.Proofs.YtnmlmpffmjhihaaGreat
namespace Go.Proofs.YtnmlmpffmjhihaaGreat
open Go.RowKit
set_option linter.unusedVariables false
set_option maxRecDepth 100000
set_option maxHeartbeats 4000000
theorem SlAt.drop {B : Nat} {w : World} {t : TypeId} {g off len cap n : Nat} {vs : List Value} (h : SlAt B w t (.slice (some ⟨g, off, none⟩) len cap) vs) (hn : n ≤ vs.length) : SlAt B w t (.slice (some ⟨g, off + n, none⟩) (len - n) (cap - n)) (vs.drop n) := by
  obtain ⟨a, c, e, h1, h2, h3⟩ := h
  cases e
  refine ⟨_, _, by rw [List.length_drop], by rw [List.length_drop]; omega, by omega, ?_⟩
  rcases h3 with h3 | ⟨g', off', e, hg, ht, hc⟩
  · left; rw [h3]; simp
  · cases e
    right
    refine ⟨g, off + n, rfl, hg, ht, fun j hj => ?_⟩
    rw [List.length_drop] at hj
    rw [Nat.add_assoc, hc (n + j) (by omega)]
    simp
theorem RowAt.drop {B : Nat} {w : World} {g off len cap n : Nat} {bs : List Nat} (h : RowAt B w (.slice (some ⟨g, off, none⟩) len cap) bs) (hn : n ≤ bs.length) : RowAt B w (.slice (some ⟨g, off + n, none⟩) (len - n) (cap - n)) (bs.drop n) := by
  refine ⟨?_, fun x hx => h.2 x (List.mem_of_mem_drop hx)⟩
  have := h.1.drop (n := n) (by rw [u8s_length]; exact hn)
  rwa [show (u8s bs).drop n = u8s (bs.drop n) by simp [u8s, List.map_drop]] at this
theorem RowAt.cap {B : Nat} {w : World} {a : Option Addr} {n cap : Nat} {bs : List Nat} (h : RowAt B w (.slice a n cap) bs) : n ≤ cap ∧ cap ≤ maxLen := by
  obtain ⟨a', c', e, h1, h2, _⟩ := h.1
  cases e
  exact ⟨h1, h2⟩
theorem soFar_get (new old : Tab) (m : Nat) (h : new.length = old.length) (hm : m < old.length) : (soFar new old m)[m]'(by rw [soFar_length new old m h (by omega)]; omega) = old[m] := by
  unfold soFar
  rw [List.getElem_append_right (by simp; omega)]
  simp
  congr 1
  omega
theorem idRow_get (n i j : Nat) (hj : j < n) : (idRow n i)[j]'(by rw [idRow_length]; exact hj) = if i = j then 1 else 0 := by
  unfold idRow
  rw [List.getElem_set]
  simp
end Go.Proofs.YtnmlmpffmjhihaaGreat
namespace Go.Proofs.YtnmlmpffmjhihaaGreat
open Go.RowKit
set_option linter.unusedVariables false
set_option maxRecDepth 100000
set_option maxHeartbeats 4000000
def dotS (r : List Nat) (Q : Tab) (j m : Nat) : Nat := (List.range m).foldl (fun x k => x ^^^ gm (r.getD k 0) (entM Q k j)) 0
def mulSo (r : List Nat) (Q : Tab) (m : Nat) : List Nat := (List.range (wid Q)).map fun j => dotS r Q j m
def mulE (A Q : Tab) : Int := if chkM A ≠ 0 then chkM A else if chkM Q ≠ 0 then chkM Q else if wid A ≠ Q.length then 16 else 0
def mulT (A Q : Tab) : Tab := A.map fun r => mulSo r Q Q.length
def mulV (A Q : Tab) : Tab := if mulE A Q = 0 then mulT A Q else []
theorem dotS_succ (r : List Nat) (Q : Tab) (j m : Nat) : dotS r Q j (m + 1) = dotS r Q j m ^^^ gm (r.getD m 0) (entM Q m j) := by
  unfold dotS
  rw [List.range_succ, List.foldl_append]
  rfl
theorem mulSo_length (r : List Nat) (Q : Tab) (m : Nat) : (mulSo r Q m).length = wid Q := by simp [mulSo]
theorem mulSo_zero (r : List Nat) (Q : Tab) : mulSo r Q 0 = List.replicate (wid Q) 0 := by
  unfold mulSo
  apply List.ext_getElem
  · simp
  · intro j h1 h2
    simp [dotS]
theorem mulSo_succ (r : List Nat) (Q : Tab) (m : Nat) (hm : m < Q.length) (hw : Q[m].length = wid Q) : mulAddL (mulSo r Q m) (r.getD m 0) Q[m] = mulSo r Q (m + 1) := by
  unfold mulAddL addL mulSo
  apply List.ext_getElem
  · simp [scaleL, hw]
  · intro j h1 h2
    have hj : j < wid Q := by simpa using h2
    simp only [List.getElem_zipWith, List.getElem_map, List.getElem_range]
    rw [dotS_succ]
    congr 1
    simp only [scaleL, List.getElem_map]
    rw [entM_get Q m j hm (by rw [hw]; exact hj)]
theorem dotS_lt (r : List Nat) (Q : Tab) (j : Nat) : ∀ m, dotS r Q j m < 256
  | 0 => by simp [dotS]
  | m + 1 => by
    rw [dotS_succ]
    exact Nat.xor_lt_two_pow (n := 8) (dotS_lt r Q j m) (gm_lt _ _)
theorem mulSo_lt (r : List Nat) (Q : Tab) (m : Nat) : ∀ x ∈ mulSo r Q m, x < 256 := fun x hx => by
  obtain ⟨j, _, rfl⟩ := List.mem_map.1 hx
  exact dotS_lt r Q j m
theorem mulT_length (A Q : Tab) : (mulT A Q).length = A.length := by simp [mulT]
def MulPost (A Q : Tab) (w : World) (e : Ending) (w' : World) : Prop := ∃ v, e = .returned (.tuple #[v, .int .i64 (mulE A Q)]) ∧ MatAt 0 w' v (mulV A Q) ∧ Below w.heap.size w w'
theorem MulPost.no {A Q : Tab} {w w' : World} {z : Int} (h : mulE A Q = z) (hz : z ≠ 0) (hb : Below w.heap.size w w') : MulPost A Q w (.returned (.tuple #[.slice none 0 0, .int .i64 z])) w' :=
  ⟨_, by rw [h], by unfold mulV; rw [if_neg (by omega)]; exact MatAt.nil _ _, hb⟩
theorem MulPost.yes {A Q : Tab} {w w' : World} {v : Value} (h : mulE A Q = 0) (hm : MatAt 0 w' v (mulT A Q)) (hb : Below w.heap.size w w') : MulPost A Q w (.returned (.tuple #[v, .int .i64 0])) w' :=
  ⟨_, by rw [h], by unfold mulV; rw [if_pos h]; exact hm, hb⟩
theorem mulE_a {A Q : Tab} (h : chkM A ≠ 0) : mulE A Q = chkM A := by unfold mulE; rw [if_pos h]
theorem mulE_q {A Q : Tab} (h : chkM A = 0) (h2 : chkM Q ≠ 0) : mulE A Q = chkM Q := by unfold mulE; rw [if_neg (by omega), if_pos h2]
theorem mulE_l {A Q : Tab} (h : chkM A = 0) (h2 : chkM Q = 0) (h3 : wid A ≠ Q.length) : mulE A Q = 16 := by unfold mulE; rw [if_neg (by omega), if_neg (by omega), if_pos h3]
theorem mulE_ok {A Q : Tab} (h : chkM A = 0) (h2 : chkM Q = 0) (h3 : wid A = Q.length) : mulE A Q = 0 := by unfold mulE; rw [if_neg (by omega), if_neg (by omega), if_neg (by omega)]
end Go.Proofs.YtnmlmpffmjhihaaGreat
