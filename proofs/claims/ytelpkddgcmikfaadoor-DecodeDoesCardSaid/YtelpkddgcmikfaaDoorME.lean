/-
  Merged: Tables of bytes: a place is cleared in all rows but one: plain, and the program's contract (chapter 3). | Tables of bytes: a table is made plain: plain, and the program's contract (chapter 3). | Tables of bytes: copies: the program's and the document's contracts (chapter 3). | Tables of bytes: the rank and the inverse: the program's contracts (chapter 3). | Tables of bytes: the inverse: the program's contract (chapter 3).
-/
import Derived.Test.YtelpkddgcmikfaaDoorMD
namespace Go.Proofs.YtelpkddgcmikfaaDoor
open Go.RowKit
set_option linter.unusedVariables false
set_option maxRecDepth 100000
set_option maxHeartbeats 2000000
def scR (c row : Nat) (R : List (List Nat)) : List (List Nat) := R.set row (scaleL c (R.getD row []))
def addR (R : List (List Nat)) (x i row : Nat) : List (List Nat) := R.set i (mulAddL (R.getD i []) x (R.getD row []))
def stepC (row place : Nat) (MO : List (List Nat) × List (List Nat)) (i : Nat) : List (List Nat) × List (List Nat) :=
  if i = row ∨ entM MO.1 i place = 0 then MO else (addR MO.1 (entM MO.1 i place) i row, addR MO.2 (entM MO.1 i place) i row)
def clearSo (row place : Nat) (M O : List (List Nat)) (m : Nat) : List (List Nat) × List (List Nat) :=
  (List.range m).foldl (stepC row place) (scR (gi (entM M row place)) row M, scR (gi (entM M row place)) row O)
def clearL (row place : Nat) (M O : List (List Nat)) : List (List Nat) × List (List Nat) := clearSo row place M O M.length
theorem clearSo_succ (row place : Nat) (M O : List (List Nat)) (m : Nat) : clearSo row place M O (m + 1) = stepC row place (clearSo row place M O m) m := by
  unfold clearSo
  rw [List.range_succ, List.foldl_append]
  rfl
/-- All rows are so long. -/
def Wide (R : List (List Nat)) (x : Nat) : Prop := ∀ i (h : i < R.length), R[i].length = x
theorem Wide.set {R : List (List Nat)} {x i : Nat} {r : List Nat} (h : Wide R x) (hr : r.length = x) : Wide (R.set i r) x := fun j hj => by
  by_cases e : i = j
  · subst e; simpa using hr
  · rw [List.getElem_set_ne e]; exact h j (by simpa using hj)
theorem scR_wide {R : List (List Nat)} {c row x : Nat} (h : Wide R x) (hr : row < R.length) : Wide (scR c row R) x := by
  unfold scR
  rw [getD_get R row _ hr]
  exact h.set (by rw [scaleL_length]; exact h row hr)
theorem addR_wide {R : List (List Nat)} {c i row x : Nat} (h : Wide R x) (hi : i < R.length) (hr : row < R.length) : Wide (addR R c i row) x := by
  unfold addR mulAddL
  rw [getD_get R row _ hr, getD_get R i _ hi]
  exact h.set (by rw [addL_length _ _ (by rw [scaleL_length, h i hi, h row hr]), h i hi])
theorem scR_length (c row : Nat) (R : List (List Nat)) : (scR c row R).length = R.length := by simp [scR]
theorem addR_length (R : List (List Nat)) (x i row : Nat) : (addR R x i row).length = R.length := by simp [addR]
theorem stepC_len (row place : Nat) (MO : List (List Nat) × List (List Nat)) (i : Nat) : (stepC row place MO i).1.length = MO.1.length ∧ (stepC row place MO i).2.length = MO.2.length := by
  unfold stepC
  split
  · exact ⟨rfl, rfl⟩
  · exact ⟨addR_length _ _ _ _, addR_length _ _ _ _⟩
theorem clearSo_len (row place : Nat) (M O : List (List Nat)) : ∀ m, (clearSo row place M O m).1.length = M.length ∧ (clearSo row place M O m).2.length = O.length
  | 0 => ⟨scR_length _ _ _, scR_length _ _ _⟩
  | m + 1 => by
    rw [clearSo_succ]
    have h1 := stepC_len row place (clearSo row place M O m) m
    have h2 := clearSo_len row place M O m
    exact ⟨h1.1.trans h2.1, h1.2.trans h2.2⟩
theorem clearSo_wide {row place : Nat} {M O : List (List Nat)} {x y : Nat} (hM : Wide M x) (hO : Wide O y) (hl : O.length = M.length) (hr : row < M.length) : ∀ m, m ≤ M.length → Wide (clearSo row place M O m).1 x ∧ Wide (clearSo row place M O m).2 y
  | 0, _ => ⟨scR_wide hM hr, scR_wide hO (by omega)⟩
  | m + 1, h => by
    rw [clearSo_succ]
    have h1 := clearSo_wide (place := place) hM hO hl hr m (by omega)
    have h2 := clearSo_len row place M O m
    unfold stepC
    split
    · exact h1
    · exact ⟨addR_wide h1.1 (by omega) (by omega), addR_wide h1.2 (by omega) (by omega)⟩
/-- No row but the one is looked at again: and that one stays. -/
theorem entM_lt {M : List (List Nat)} (h : ∀ i (h : i < M.length), ∀ x ∈ M[i], x < 256) (i j : Nat) : entM M i j < 256 := by
  unfold entM
  by_cases hi : i < M.length
  · rw [getD_get M i [] hi]
    by_cases hj : j < M[i].length
    · rw [getD_get _ j 0 hj]; exact h i hi _ (by simp)
    · simp [List.getD, List.getElem?_eq_none (show M[i].length ≤ j by omega)]
  · simp [List.getD, List.getElem?_eq_none (show M.length ≤ i by omega)]
theorem OwnM.bytes {w : World} {g off : Nat} {rows : List (List Nat)} (h : OwnM w g off rows) : ∀ i (h : i < rows.length), ∀ x ∈ rows[i], x < 256 := fun i hi => by
  obtain ⟨a, c, _, r⟩ := h.read i hi
  exact r.2
theorem clear_any (gm om cm go' oo co n wm wo : Nat) (M O : List (List Nat)) (row place : Nat) (hr : row < n) (hn : n ≤ 255) (w : World) (h : OwnP w gm om go' oo M O) (hl : M.length = n) (hM : Wide M wm) (hO : Wide O wo) (hp : place < wm) (hwm : wm ≤ 255) (hwo : wo ≤ 255) (hnz : entM M row place ≠ 0) :
    Calls Tryd.prog 88 #[.agg #[.slice (some ⟨gm, om, none⟩) n cm, .slice (some ⟨go', oo, none⟩) n co], .int .i64 row, .int .i64 place] w fun e w' => e = .returned (.tuple #[]) ∧ OwnP w' gm om go' oo (clearL row place M O).1 (clearL row place M O).2 ∧ Only [gm, go'] w w' := by
  have hm := h.m
  have ho := h.o
  have hlo : O.length = n := by have := h.len; omega
  have lm := hm.lt
  have lo := ho.lt
  have hne := h.ne
  have hr0 : (0 : Int) ≤ (row : Int) := by omega
  have hr1 : (row : Int) < (n : Int) := by omega
  have hp0 : (0 : Int) ≤ (place : Int) := by omega
  have hent := entM_get M row place (by omega) (by rw [hM row (by omega)]; exact hp)
  have hx256 : entM M row place < 256 := entM_lt hm.bytes row place
  have hxpos : 0 < entM M row place := by omega
  have kb := Blk.new w #[.slice (some ⟨gm, om, none⟩) n cm, .slice (some ⟨go', oo, none⟩) n co] 120
  have hB := Below.chainAlloc (Below.refl w.heap.size w) (.cells #[.slice (some ⟨gm, om, none⟩) n cm, .slice (some ⟨go', oo, none⟩) n co] 120)
  have q0 : (w.alloc (.cells #[.slice (some ⟨gm, om, none⟩) n cm, .slice (some ⟨go', oo, none⟩) n co] 120)).cell? ⟨w.heap.size, 0, none⟩ = some (.slice (some ⟨gm, om, none⟩) n cm) := kb.facts.1 0
  have q1 : (w.alloc (.cells #[.slice (some ⟨gm, om, none⟩) n cm, .slice (some ⟨go', oo, none⟩) n co] 120)).cell? ⟨w.heap.size, 1, none⟩ = some (.slice (some ⟨go', oo, none⟩) n co) := kb.facts.1 1
  have qx : w.heap.size < (w.alloc (.cells #[.slice (some ⟨gm, om, none⟩) n cm, .slice (some ⟨go', oo, none⟩) n co] 120)).heap.size := kb.lt
  have HM := Lib.hid hM
  have HO := Lib.hid hO
  clear hnz
  go_enter Tryd.func88, Tryd.ntmps88
  go_upto_region 1 with fail
  have hmW := hm.chain hB
  have hoW := ho.chain hB
  have hOW := Only.of_below (S := []) hB
  clear kb hB hm ho h
  generalize (w.alloc (.cells #[.slice (some ⟨gm, om, none⟩) n cm, .slice (some ⟨go', oo, none⟩) n co] 120)) = W at *
  generalize hbx : w.heap.size = bx at *
  have hmbx : gm ≠ bx := by omega
  have hobx : go' ≠ bx := by omega
  clear hbx
  obtain ⟨a1, c1, m1, r1⟩ := hmW.read row (by omega)
  obtain ⟨_, _, e, hc⟩ := r1.at
  cases e
  obtain ⟨gr, offr, rfl, hgr, hck⟩ := hc place (by rw [HM.out row (by omega)]; exact hp)
  have hlr := HM.out row (by omega)
  rw [← hent] at hck
  have HLR := Lib.hid hlr
  clear hc hent
  rw [hlr] at m1 r1
  have HINV := Lib.hid (fun wx => inv_any (entM M row place) hxpos hx256 wx)
  have hgc : gi (entM M row place) < 256 := expT_lt _
  obtain ⟨cc, hcc⟩ : ∃ cc, cc = gi (entM M row place) := ⟨_, rfl⟩
  rw [← hcc] at HINV hgc
  have HCC := Lib.hid hcc
  clear hlr hcc
  obtain ⟨xx, hxx⟩ : ∃ xx, xx = entM M row place := ⟨_, rfl⟩
  rw [← hxx] at HINV hck hx256 hxpos
  clear hxx
  go_wp2_with fail
  refine (HINV.out _).mono ?_
  rintro x w1 ⟨rfl, rfl⟩
  clear hck HINV
  go_upto_region 2 with fail
  obtain ⟨b1, d1, o1, s1⟩ := hoW.read row (by omega)
  have hls := HO.out row (by omega)
  rw [hls] at o1 s1
  have HLS := Lib.hid hls
  clear hls
  have fm1 := hmW.free (om + row)
  refine wp_region_T (fun w' => w'.cell? ⟨bx, 0, none⟩ = some (.slice (some ⟨gm, om, none⟩) n cm) ∧ w'.cell? ⟨bx, 1, none⟩ = some (.slice (some ⟨go', oo, none⟩) n co)) (fun w' => w'.cell? ⟨gm, om + row, none⟩ = some (.slice (some ⟨gr, offr, none⟩) wm c1) ∧ w'.cell? ⟨go', oo + row, none⟩ = some (.slice b1 wo d1)) (fun j => j == 21 || j == 23) (by kernel_rfl) ?_
  have hS0 : W.drew.cell? ⟨bx, 0, none⟩ = some (.slice (some ⟨gm, om, none⟩) n cm) ∧ W.drew.cell? ⟨bx, 1, none⟩ = some (.slice (some ⟨go', oo, none⟩) n co) := ⟨q0, q1⟩
  have hS1 : W.drew.cell? ⟨gm, om + row, none⟩ = some (.slice (some ⟨gr, offr, none⟩) wm c1) ∧ W.drew.cell? ⟨go', oo + row, none⟩ = some (.slice b1 wo d1) := ⟨m1, o1⟩
  have hbd := (Below.refl W.heap.size W).drew
  have hmD := hmW.chain hbd
  have hoD := hoW.chain hbd
  have r1D := r1.chain hbd
  have s1D := s1.chain hbd
  have qxD : bx < W.drew.heap.size := qx
  have hOD := hOW.drew
  clear hbd hmW hoW r1 s1 qx hOW q0 q1 m1 o1 fm1
  generalize W.drew = Wd at *
  have lmW := hmD.lt
  have loW := hoD.lt
  refine wpAnyT_take (i := 0) (v := ?_) rfl (by kernel_rfl) (by kernel_rfl) (by kernel_rfl) (fun _ _ _ h => h) (Or.inl ⟨by rfl, ?_⟩) hS0 ?_
  rotate_left
  · (intro wz hSw; (try dsimp only at hSw); go_simp; (try with_reducible rfl))
  simp only [Act.put, List.setIfInBounds_toArray]
  refine wpAnyT_take (i := 1) (v := ?_) rfl (by kernel_rfl) (by kernel_rfl) (by kernel_rfl) (fun _ _ _ h => h) (Or.inl ⟨by rfl, ?_⟩) hS0 ?_
  rotate_left
  · (intro wz hSw; (try dsimp only at hSw); go_simp; (try with_reducible rfl))
  simp only [Act.put]
  refine wpAnyT_take (i := 2) (v := ?_) rfl (by kernel_rfl) (by kernel_rfl) (by kernel_rfl) (fun _ _ _ h => h) (Or.inl ⟨by rfl, ?_⟩) hS0 ?_
  rotate_left
  · (intro wz hSw; (try dsimp only at hSw); go_simp; (try with_reducible rfl))
  simp only [Act.put]
  refine wpAnyT_take (i := 3) (v := ?_) rfl (by kernel_rfl) (by kernel_rfl) (by kernel_rfl) (fun _ _ _ h => h) (Or.inl ⟨by rfl, ?_⟩) hS0 ?_
  rotate_left
  · (intro wz hSw; (try dsimp only at hSw); go_simp; (try with_reducible rfl))
  simp only [Act.put]
  refine wpAnyT_take (i := 4) (v := ?_) rfl (by kernel_rfl) (by kernel_rfl) (by kernel_rfl) (fun _ _ _ h => h) (Or.inl ⟨by rfl, ?_⟩) hS0 ?_
  rotate_left
  · (intro wz hSw; (try dsimp only at hSw); go_simp; (try with_reducible rfl))
  simp only [Act.put]
  refine wpAnyT_take (i := 5) (v := ?_) rfl (by kernel_rfl) (by kernel_rfl) (by kernel_rfl) (fun _ _ _ h => h) (Or.inl ⟨by rfl, ?_⟩) hS0 ?_
  rotate_left
  · (intro wz hSw; (try dsimp only at hSw); go_simp; (try with_reducible rfl))
  simp only [Act.put]
  refine wpAnyT_take (i := 6) (v := ?_) rfl (by kernel_rfl) (by kernel_rfl) (by kernel_rfl) (fun _ _ _ h => h) (Or.inl ⟨by rfl, ?_⟩) hS0 ?_
  rotate_left
  · (intro wz hSw; (try dsimp only at hSw); go_simp; (try with_reducible rfl))
  simp only [Act.put]
  refine wpAnyT_take (i := 7) (v := ?_) rfl (by kernel_rfl) (by kernel_rfl) (by kernel_rfl) (fun _ _ _ h => h) (Or.inl ⟨by rfl, ?_⟩) hS0 ?_
  rotate_left
  · (intro wz hSw; (try dsimp only at hSw); go_simp; (try with_reducible rfl))
  simp only [Act.put]
  refine wpAnyT_take (i := 8) (v := ?_) rfl (by kernel_rfl) (by kernel_rfl) (by kernel_rfl) (fun _ _ _ h => h) (Or.inl ⟨by rfl, ?_⟩) hS0 ?_
  rotate_left
  · (intro wz hSw; (try dsimp only at hSw); go_simp; (try with_reducible rfl))
  simp only [Act.put]
  refine wpAnyT_take (i := 9) (v := ?_) rfl (by kernel_rfl) (by kernel_rfl) (by kernel_rfl) (fun _ _ _ h => h) (Or.inl ⟨by rfl, ?_⟩) hS0 ?_
  rotate_left
  · (intro wz hSw; (try dsimp only at hSw); go_simp; (try with_reducible rfl))
  simp only [Act.put]
  refine wpAnyT_take (i := 10) (v := ?_) rfl (by kernel_rfl) (by kernel_rfl) (by kernel_rfl) (fun _ _ _ h => h) (Or.inl ⟨by rfl, ?_⟩) hS0 ?_
  rotate_left
  · (intro wz hSw; (try dsimp only at hSw); go_simp; (try with_reducible rfl))
  simp only [Act.put]
  refine wpAnyT_takeS (i := 11) (v := ?_) rfl (by kernel_rfl) (by kernel_rfl) (by kernel_rfl) (by kernel_rfl) (fun _ _ _ h => h) (Or.inl ⟨by rfl, ?_⟩) hS0 hS1 ?_
  rotate_left
  · (intro wz hSw; (try dsimp only at hSw); go_simp; (try with_reducible rfl))
  simp only [Act.put]
  refine wpAnyT_take (i := 13) (v := ?_) rfl (by kernel_rfl) (by kernel_rfl) (by kernel_rfl) (fun _ _ _ h => h) (Or.inl ⟨by rfl, ?_⟩) hS0 ?_
  rotate_left
  · (intro wz hSw; (try dsimp only at hSw); go_simp; (try with_reducible rfl))
  simp only [Act.put]
  refine wpAnyT_take (i := 14) (v := ?_) rfl (by kernel_rfl) (by kernel_rfl) (by kernel_rfl) (fun _ _ _ h => h) (Or.inl ⟨by rfl, ?_⟩) hS0 ?_
  rotate_left
  · (intro wz hSw; (try dsimp only at hSw); go_simp; (try with_reducible rfl))
  simp only [Act.put]
  refine wpAnyT_take (i := 15) (v := ?_) rfl (by kernel_rfl) (by kernel_rfl) (by kernel_rfl) (fun _ _ _ h => h) (Or.inl ⟨by rfl, ?_⟩) hS0 ?_
  rotate_left
  · (intro wz hSw; (try dsimp only at hSw); go_simp; (try with_reducible rfl))
  simp only [Act.put]
  refine wpAnyT_take (i := 16) (v := ?_) rfl (by kernel_rfl) (by kernel_rfl) (by kernel_rfl) (fun _ _ _ h => h) (Or.inl ⟨by rfl, ?_⟩) hS0 ?_
  rotate_left
  · (intro wz hSw; (try dsimp only at hSw); go_simp; (try with_reducible rfl))
  simp only [Act.put]
  refine wpAnyT_take (i := 17) (v := ?_) rfl (by kernel_rfl) (by kernel_rfl) (by kernel_rfl) (fun _ _ _ h => h) (Or.inl ⟨by rfl, ?_⟩) hS0 ?_
  rotate_left
  · (intro wz hSw; (try dsimp only at hSw); go_simp; (try with_reducible rfl))
  simp only [Act.put]
  refine wpAnyT_takeS (i := 18) (v := ?_) rfl (by kernel_rfl) (by kernel_rfl) (by kernel_rfl) (by kernel_rfl) (fun _ _ _ h => h) (Or.inl ⟨by rfl, ?_⟩) hS0 hS1 ?_
  rotate_left
  · (intro wz hSw; (try dsimp only at hSw); go_simp; (try with_reducible rfl))
  simp only [Act.put]
  refine wpAnyT_one (i := 12) (by kernel_rfl) rfl (fun K hK => ?_)
  go_simp
  refine (scale_any cc hgc 0 _ M[row] (by rw [HLR.out]; omega) _ r1D).mono ?_
  rw [HLR.out]
  rintro x w2 ⟨rfl, hb2, hB2⟩
  have hS02 : w2.cell? ⟨bx, 0, none⟩ = some (.slice (some ⟨gm, om, none⟩) n cm) ∧ w2.cell? ⟨bx, 1, none⟩ = some (.slice (some ⟨go', oo, none⟩) n co) := ⟨(hB2.cell (p := ⟨bx, 0, none⟩) qxD).trans hS0.1, (hB2.cell (p := ⟨bx, 1, none⟩) qxD).trans hS0.2⟩
  refine hK.out _ _ hS02 (fun _ h => ⟨(hB2.cell (p := ⟨gm, om + row, none⟩) lmW).trans h.1, (hB2.cell (p := ⟨go', oo + row, none⟩) loW).trans h.2⟩) ?_
  clear hK K
  have hm2 := hmD.chain hB2
  have ho2 := hoD.chain hB2
  have s12 := s1D.chain hB2
  have t1 := hb2.row (B := 0) (cap := wm) (by rw [scaleL_length, HLR.out]; exact Nat.le_refl _) (by unfold maxLen; omega)
  rw [scaleL_length, HLR.out] at t1
  have hO2 := hOD.trans (Only.of_below (S := []) hB2)
  have qx2 : bx < w2.heap.size := Nat.lt_of_lt_of_le qxD hB2.size
  clear hS0 hS1 hmD hoD r1D s1D hb2 qxD hOD lmW loW
  generalize Wd.heap.size = g1 at *
  have lm2 := hm2.lt
  have lo2 := ho2.lt
  refine wpAnyT_one (i := 19) (by kernel_rfl) rfl (fun K hK => ?_)
  go_simp
  refine (scale_any cc hgc 0 _ O[row] (by rw [HLS.out]; omega) _ s12).mono ?_
  rw [HLS.out]
  rintro x w3 ⟨rfl, hb3, hB3⟩
  have hS03 : w3.cell? ⟨bx, 0, none⟩ = some (.slice (some ⟨gm, om, none⟩) n cm) ∧ w3.cell? ⟨bx, 1, none⟩ = some (.slice (some ⟨go', oo, none⟩) n co) := ⟨(hB3.cell (p := ⟨bx, 0, none⟩) qx2).trans hS02.1, (hB3.cell (p := ⟨bx, 1, none⟩) qx2).trans hS02.2⟩
  refine hK.out _ _ hS03 (fun _ h => ⟨(hB3.cell (p := ⟨gm, om + row, none⟩) lm2).trans h.1, (hB3.cell (p := ⟨go', oo + row, none⟩) lo2).trans h.2⟩) ?_
  clear hK K
  have hm3 := hm2.chain hB3
  have ho3 := ho2.chain hB3
  have t13 := t1.chain hB3
  have t2 := hb3.row (B := 0) (cap := wo) (by rw [scaleL_length, HLS.out]; exact Nat.le_refl _) (by unfold maxLen; omega)
  rw [scaleL_length, HLS.out] at t2
  have hO3 := hO2.trans (Only.of_below (S := []) hB3)
  have qx3 : bx < w3.heap.size := Nat.lt_of_lt_of_le qx2 hB3.size
  clear hS02 hm2 ho2 s12 hb3 qx2 hO2 lm2 lo2 t1 hB2
  generalize w2.heap.size = g2 at *
  clear hB3
  obtain ⟨az, cz, hcz, -⟩ := hm3.read row (by omega)
  have hfz := hm3.free (om + row)
  refine wpAnyT_take (i := 20) (v := ?_) rfl (by kernel_rfl) (by kernel_rfl) (by kernel_rfl) (fun _ _ _ h => h) (Or.inl ⟨by rfl, ?_⟩) hS03 ?_
  rotate_left
  · (intro wz hSw; (try dsimp only at hSw); go_simp; (try with_reducible rfl))
  simp only [Act.put]
  refine wpAnyT_one (i := 21) (by kernel_rfl) rfl (fun K hK => ?_)
  go_simp
  have hm4 := hm3.store row (by omega) _ _ _ _ t13
  have ho4 := ho3.other ⟨gm, om + row, none⟩ (.slice (some ⟨g1, 0, none⟩) wm wm) (Ne.symm hne) hm3.apart
  have t24 := t2.store ⟨gm, om + row, none⟩ (.slice (some ⟨g1, 0, none⟩) wm wm) hm3.apart
  have hO4 := (hO3.mono (S' := [gm]) (by simp)).setCell ⟨gm, om + row, none⟩ (.slice (some ⟨g1, 0, none⟩) wm wm) (.inl (by simp))
  have hS04 : (w3.setCell ⟨gm, om + row, none⟩ (.slice (some ⟨g1, 0, none⟩) wm wm)).cell? ⟨bx, 0, none⟩ = some (.slice (some ⟨gm, om, none⟩) n cm) ∧ (w3.setCell ⟨gm, om + row, none⟩ (.slice (some ⟨g1, 0, none⟩) wm wm)).cell? ⟨bx, 1, none⟩ = some (.slice (some ⟨go', oo, none⟩) n co) := ⟨(World.cell?_setCell_far _ _ _ _ (by simp; omega)).trans hS03.1, (World.cell?_setCell_far _ _ _ _ (by simp; omega)).trans hS03.2⟩
  generalize (w3.setCell ⟨gm, om + row, none⟩ (.slice (some ⟨g1, 0, none⟩) wm wm)) = w4 at *
  refine hK.out _ _ hS04 (fun h => absurd h (by decide)) ?_
  clear hK K hS03 hm3 ho3 t13 t2 hO3 hcz hfz
  obtain ⟨az, cz, hcz, -⟩ := ho4.read row (by omega)
  have hfz := ho4.free (oo + row)
  refine wpAnyT_take (i := 22) (v := ?_) rfl (by kernel_rfl) (by kernel_rfl) (by kernel_rfl) (fun _ _ _ h => h) (Or.inl ⟨by rfl, ?_⟩) hS04 ?_
  rotate_left
  · (intro wz hSw; (try dsimp only at hSw); go_simp; (try with_reducible rfl))
  simp only [Act.put]
  refine wpAnyT_one (i := 23) (by kernel_rfl) rfl (fun K hK => ?_)
  go_simp
  have ho5 := ho4.store row (by omega) _ _ _ _ t24
  have hm5 := hm4.other ⟨go', oo + row, none⟩ (.slice (some ⟨g2, 0, none⟩) wo wo) hne ho4.apart
  have hO5 := (hO4.mono (S' := [gm, go']) (by simp)).setCell ⟨go', oo + row, none⟩ (.slice (some ⟨g2, 0, none⟩) wo wo) (.inl (by simp))
  have hS05 : (w4.setCell ⟨go', oo + row, none⟩ (.slice (some ⟨g2, 0, none⟩) wo wo)).cell? ⟨bx, 0, none⟩ = some (.slice (some ⟨gm, om, none⟩) n cm) ∧ (w4.setCell ⟨go', oo + row, none⟩ (.slice (some ⟨g2, 0, none⟩) wo wo)).cell? ⟨bx, 1, none⟩ = some (.slice (some ⟨go', oo, none⟩) n co) := ⟨(World.cell?_setCell_far _ _ _ _ (by simp; omega)).trans hS04.1, (World.cell?_setCell_far _ _ _ _ (by simp; omega)).trans hS04.2⟩
  generalize (w4.setCell ⟨go', oo + row, none⟩ (.slice (some ⟨g2, 0, none⟩) wo wo)) = w5 at *
  refine hK.out _ _ hS05 (fun h => absurd h (by decide)) ?_
  clear hK K hS04 hm4 ho4 t24 hO4 hcz hfz
  refine wpAnyT_done (by kernel_rfl) ?_ _
  obtain ⟨q0, q1⟩ := hS05
  have hs0 : M.set row (scaleL cc M[row]) = (clearSo row place M O 0).1 ∧ O.set row (scaleL cc O[row]) = (clearSo row place M O 0).2 := by
    show _ = scR (gi (entM M row place)) row M ∧ _ = scR (gi (entM M row place)) row O
    unfold scR
    rw [getD_get M row _ (by omega), getD_get O row _ (by omega), ← HCC.out]
    exact ⟨rfl, rfl⟩
  rw [hs0.1] at hm5
  rw [hs0.2] at ho5
  clear hs0 hxpos hx256
  go_wp2_with fail
  go_loopw [8, 9, 47] (fun _ _ i wr => ∃ m : Nat, m ≤ n ∧ i = .int .i64 m ∧ OwnM wr gm om (clearSo row place M O m).1 ∧ OwnM wr go' oo (clearSo row place M O m).2 ∧ Only [gm, go'] w wr ∧ wr.cell? ⟨bx, 0, none⟩ = some (.slice (some ⟨gm, om, none⟩) n cm) ∧ wr.cell? ⟨bx, 1, none⟩ = some (.slice (some ⟨go', oo, none⟩) n co)) (fun _ _ i _ => n - (intOf i).toNat)
  case atStart => exact ⟨0, by omega, rfl, hm5, ho5, hO5, q0, q1⟩
  case round =>
    clear hm5 ho5 hO5 q0 q1
    obtain ⟨m, hmn, rfl, hmr, hor, hOR, q0, q1⟩ := hrel
    by_cases hlt : m < n
    · have hln := clearSo_len row place M O m
      have hwd := clearSo_wide (row := row) (place := place) HM.out HO.out (by omega) (by omega) m (by omega)
      have HSTEP : Hid (clearSo row place M O (m + 1) = stepC row place ((clearSo row place M O m).1, (clearSo row place M O m).2) m) := clearSo_succ row place M O m
      obtain ⟨hln1, hln2⟩ := hln
      obtain ⟨hwd1, hwd2⟩ := hwd
      obtain ⟨R1, hR1⟩ : ∃ R, R = (clearSo row place M O m).1 := ⟨_, rfl⟩
      obtain ⟨R2, hR2⟩ : ∃ R, R = (clearSo row place M O m).2 := ⟨_, rfl⟩
      rw [← hR1] at hmr hln1 hwd1 HSTEP
      rw [← hR2] at hor hln2 hwd2 HSTEP
      clear hR1 hR2
      have HW1 := Lib.hid hwd1
      have HW2 := Lib.hid hwd2
      obtain ⟨ax, cx, mx, rx⟩ := hmr.read m (by omega)
      obtain ⟨_, _, e, hc⟩ := rx.at
      cases e
      have hpl : place < R1[m].length := by rw [HW1.out m (by omega)]; exact hp
      obtain ⟨gx, offx, rfl, hgx, hckx⟩ := hc place hpl
      rw [← entM_get R1 m place (by omega) hpl] at hckx
      rw [HW1.out m (by omega)] at mx
      have hx256 := entM_lt hmr.bytes m place
      obtain ⟨xx, hxx⟩ : ∃ xx, xx = entM R1 m place := ⟨_, rfl⟩
      rw [← hxx] at hckx hx256
      have HXX := Lib.hid hxx
      clear hc rx hpl hxx
      have hmm0 : (0 : Int) ≤ (m : Int) := by omega
      have hmm1 : (m : Int) < (n : Int) := by omega
      by_cases hmr' : m = row
      · have HS : Hid (clearSo row place M O (m + 1) = (R1, R2)) := by
          unfold Hid; rw [HSTEP.out]; unfold stepC; rw [if_pos (.inl hmr')]
        have heq : ((m : Int) != (row : Int)) = false := by simp [hmr']
        clear hmr' HSTEP hwd1 hwd2
        go_wp2_with fail
        go_roundw
        case rel => exact ⟨m + 1, by omega, by go_num, by rw [HS.out]; exact hmr, by rw [HS.out]; exact hor, hOR, q0, q1⟩
        case measure => simp [intOf]; omega
      · have heq : ((m : Int) != (row : Int)) = true := by simp; omega
        by_cases hx0 : xx = 0
        · have HS : Hid (clearSo row place M O (m + 1) = (R1, R2)) := by
            unfold Hid; rw [HSTEP.out]; unfold stepC; rw [if_pos (.inr (by rw [← hx0]; exact HXX.out.symm))]
          subst hx0
          clear HSTEP hmr' hwd1 hwd2
          go_wp2_with fail
          go_roundw
          case rel => exact ⟨m + 1, by omega, by go_num, by rw [HS.out]; exact hmr, by rw [HS.out]; exact hor, hOR, q0, q1⟩
          case measure => simp [intOf]; omega
        · have HS : Hid (clearSo row place M O (m + 1) = (addR R1 xx m row, addR R2 xx m row)) := by
            unfold Hid; rw [HSTEP.out]; unfold stepC; rw [if_neg (by rintro (h | h); exact hmr' h; exact hx0 (HXX.out.trans h)), ← HXX.out]
          have hxne : ((xx : Int) != 0) = true := by simp; omega
          have hset : R1.set m (mulAddL R1[m] xx R1[row]) = addR R1 xx m row ∧ R2.set m (mulAddL R2[m] xx R2[row]) = addR R2 xx m row := by
            unfold addR
            rw [getD_get R1 m _ (by omega), getD_get R1 row _ (by omega), getD_get R2 m _ (by omega), getD_get R2 row _ (by omega)]
            exact ⟨rfl, rfl⟩
          have HSET := Lib.hid hset
          clear HSTEP hmr' hx0 hset
          go_wp2_with fail
          clear mx hckx hgx hwd1 hwd2
          obtain ⟨e1a, f1a, u1, v1⟩ := hmr.read m (by omega)
          obtain ⟨e2a, f2a, u2, v2⟩ := hmr.read row (by omega)
          rw [HW1.out m (by omega)] at u1 v1
          rw [HW1.out row (by omega)] at u2 v2
          refine wp_region_T (fun w' => w'.cell? ⟨bx, 0, none⟩ = some (.slice (some ⟨gm, om, none⟩) n cm) ∧ w'.cell? ⟨bx, 1, none⟩ = some (.slice (some ⟨go', oo, none⟩) n co)) (fun w' => w'.cell? ⟨gm, om + m, none⟩ = some (.slice e1a wm f1a) ∧ w'.cell? ⟨gm, om + row, none⟩ = some (.slice e2a wm f2a)) (fun j => j == 19) (by kernel_rfl) ?_
          have hS0 : wr.drew.cell? ⟨bx, 0, none⟩ = some (.slice (some ⟨gm, om, none⟩) n cm) ∧ wr.drew.cell? ⟨bx, 1, none⟩ = some (.slice (some ⟨go', oo, none⟩) n co) := ⟨q0, q1⟩
          have hS1 : wr.drew.cell? ⟨gm, om + m, none⟩ = some (.slice e1a wm f1a) ∧ wr.drew.cell? ⟨gm, om + row, none⟩ = some (.slice e2a wm f2a) := ⟨u1, u2⟩
          have hbd := (Below.refl wr.heap.size wr).drew
          replace hmr := hmr.chain hbd
          replace hor := hor.chain hbd
          replace v1 := v1.chain hbd
          replace v2 := v2.chain hbd
          have qx : bx < wr.drew.heap.size := World.block_lt_of_cell? _ _ q0
          replace hOR := hOR.drew
          clear hbd q0 q1 u1 u2
          generalize wr.drew = wrd at *
          have l1 := hmr.lt
          have l2 := hor.lt
          refine wpAnyT_take (i := 0) (v := ?_) rfl (by kernel_rfl) (by kernel_rfl) (by kernel_rfl) (fun _ _ _ h => h) (Or.inl ⟨by rfl, ?_⟩) hS0 ?_
          rotate_left
          · (intro wz hSw; (try dsimp only at hSw); go_simp; (try with_reducible rfl))
          simp only [Act.put, List.setIfInBounds_toArray]
          refine wpAnyT_take (i := 1) (v := ?_) rfl (by kernel_rfl) (by kernel_rfl) (by kernel_rfl) (fun _ _ _ h => h) (Or.inl ⟨by rfl, ?_⟩) hS0 ?_
          rotate_left
          · (intro wz hSw; (try dsimp only at hSw); go_simp; (try with_reducible rfl))
          simp only [Act.put]
          refine wpAnyT_take (i := 2) (v := ?_) rfl (by kernel_rfl) (by kernel_rfl) (by kernel_rfl) (fun _ _ _ h => h) (Or.inl ⟨by rfl, ?_⟩) hS0 ?_
          rotate_left
          · (intro wz hSw; (try dsimp only at hSw); go_simp; (try with_reducible rfl))
          simp only [Act.put]
          refine wpAnyT_take (i := 3) (v := ?_) rfl (by kernel_rfl) (by kernel_rfl) (by kernel_rfl) (fun _ _ _ h => h) (Or.inl ⟨by rfl, ?_⟩) hS0 ?_
          rotate_left
          · (intro wz hSw; (try dsimp only at hSw); go_simp; (try with_reducible rfl))
          simp only [Act.put]
          refine wpAnyT_take (i := 4) (v := ?_) rfl (by kernel_rfl) (by kernel_rfl) (by kernel_rfl) (fun _ _ _ h => h) (Or.inl ⟨by rfl, ?_⟩) hS0 ?_
          rotate_left
          · (intro wz hSw; (try dsimp only at hSw); go_simp; (try with_reducible rfl))
          simp only [Act.put]
          refine wpAnyT_take (i := 5) (v := ?_) rfl (by kernel_rfl) (by kernel_rfl) (by kernel_rfl) (fun _ _ _ h => h) (Or.inl ⟨by rfl, ?_⟩) hS0 ?_
          rotate_left
          · (intro wz hSw; (try dsimp only at hSw); go_simp; (try with_reducible rfl))
          simp only [Act.put]
          refine wpAnyT_take (i := 6) (v := ?_) rfl (by kernel_rfl) (by kernel_rfl) (by kernel_rfl) (fun _ _ _ h => h) (Or.inl ⟨by rfl, ?_⟩) hS0 ?_
          rotate_left
          · (intro wz hSw; (try dsimp only at hSw); go_simp; (try with_reducible rfl))
          simp only [Act.put]
          refine wpAnyT_takeS (i := 7) (v := ?_) rfl (by kernel_rfl) (by kernel_rfl) (by kernel_rfl) (by kernel_rfl) (fun _ _ _ h => h) (Or.inl ⟨by rfl, ?_⟩) hS0 hS1 ?_
          rotate_left
          · (intro wz hSw; (try dsimp only at hSw); go_simp; (try with_reducible rfl))
          simp only [Act.put]
          refine wpAnyT_take (i := 8) (v := ?_) rfl (by kernel_rfl) (by kernel_rfl) (by kernel_rfl) (fun _ _ _ h => h) (Or.inl ⟨by rfl, ?_⟩) hS0 ?_
          rotate_left
          · (intro wz hSw; (try dsimp only at hSw); go_simp; (try with_reducible rfl))
          simp only [Act.put]
          refine wpAnyT_take (i := 9) (v := ?_) rfl (by kernel_rfl) (by kernel_rfl) (by kernel_rfl) (fun _ _ _ h => h) (Or.inl ⟨by rfl, ?_⟩) hS0 ?_
          rotate_left
          · (intro wz hSw; (try dsimp only at hSw); go_simp; (try with_reducible rfl))
          simp only [Act.put]
          refine wpAnyT_take (i := 10) (v := ?_) rfl (by kernel_rfl) (by kernel_rfl) (by kernel_rfl) (fun _ _ _ h => h) (Or.inl ⟨by rfl, ?_⟩) hS0 ?_
          rotate_left
          · (intro wz hSw; (try dsimp only at hSw); go_simp; (try with_reducible rfl))
          simp only [Act.put]
          refine wpAnyT_take (i := 11) (v := ?_) rfl (by kernel_rfl) (by kernel_rfl) (by kernel_rfl) (fun _ _ _ h => h) (Or.inl ⟨by rfl, ?_⟩) hS0 ?_
          rotate_left
          · (intro wz hSw; (try dsimp only at hSw); go_simp; (try with_reducible rfl))
          simp only [Act.put]
          refine wpAnyT_take (i := 12) (v := ?_) rfl (by kernel_rfl) (by kernel_rfl) (by kernel_rfl) (fun _ _ _ h => h) (Or.inl ⟨by rfl, ?_⟩) hS0 ?_
          rotate_left
          · (intro wz hSw; (try dsimp only at hSw); go_simp; (try with_reducible rfl))
          simp only [Act.put]
          refine wpAnyT_takeS (i := 13) (v := ?_) rfl (by kernel_rfl) (by kernel_rfl) (by kernel_rfl) (by kernel_rfl) (fun _ _ _ h => h) (Or.inl ⟨by rfl, ?_⟩) hS0 hS1 ?_
          rotate_left
          · (intro wz hSw; (try dsimp only at hSw); go_simp; (try with_reducible rfl))
          simp only [Act.put]
          refine wpAnyT_one (i := 14) (by kernel_rfl) rfl (fun K hK => ?_)
          go_simp
          refine (muladd_any 0 _ _ R1[m] R1[row] xx hx256 (by rw [HW1.out row (by omega)]; omega) _ v1 v2).mono ?_
          rintro x w2 ⟨u, rfl, hr2, hB2⟩
          have hle : R1[m].length = (scaleL xx R1[row]).length := by rw [scaleL_length, HW1.out m (by omega), HW1.out row (by omega)]
          have hE : lenE R1[m] (scaleL xx R1[row]) = 0 := by unfold lenE; rw [if_pos hle]
          have hV : addV R1[m] (scaleL xx R1[row]) = mulAddL R1[m] xx R1[row] := by unfold addV; rw [if_pos hle]; rfl
          rw [hE]
          rw [hV] at hr2
          obtain ⟨au, cu, rfl, -⟩ := hr2.at
          have hS02 : w2.cell? ⟨bx, 0, none⟩ = some (.slice (some ⟨gm, om, none⟩) n cm) ∧ w2.cell? ⟨bx, 1, none⟩ = some (.slice (some ⟨go', oo, none⟩) n co) := ⟨(hB2.cell (p := ⟨bx, 0, none⟩) qx).trans hS0.1, (hB2.cell (p := ⟨bx, 1, none⟩) qx).trans hS0.2⟩
          refine hK.out _ _ hS02 (fun _ h => ⟨(hB2.cell (p := ⟨gm, om + m, none⟩) l1).trans h.1, (hB2.cell (p := ⟨gm, om + row, none⟩) l1).trans h.2⟩) ?_
          clear hK K hS1 hE hV hle
          replace hmr := hmr.chain hB2
          replace hor := hor.chain hB2
          replace hOR := hOR.trans ((Only.of_below (S := []) hB2).mono (S' := [gm, go']) (by simp))
          clear hS0 v1 v2 l1 l2 qx hB2
          generalize (mulAddL R1[m] xx R1[row]).length = lua at *
          obtain ⟨az, cz, hcz, -⟩ := hmr.read m (by omega)
          have hfz := hmr.free (om + m)
          refine wpAnyT_take (i := 15) (v := ?_) rfl (by kernel_rfl) (by kernel_rfl) (by kernel_rfl) (fun _ _ _ h => h) (Or.inl ⟨by rfl, ?_⟩) hS02 ?_
          rotate_left
          · (intro wz hSw; (try dsimp only at hSw); go_simp; (try with_reducible rfl))
          simp only [Act.put]
          refine wpAnyT_take (i := 16) (v := ?_) rfl (by kernel_rfl) (by kernel_rfl) (by kernel_rfl) (fun _ _ _ h => h) (Or.inl ⟨by rfl, ?_⟩) hS02 ?_
          rotate_left
          · (intro wz hSw; (try dsimp only at hSw); go_simp; (try with_reducible rfl))
          simp only [Act.put]
          refine wpAnyT_take (i := 17) (v := ?_) rfl (by kernel_rfl) (by kernel_rfl) (by kernel_rfl) (fun _ _ _ h => h) (Or.inl ⟨by rfl, ?_⟩) hS02 ?_
          rotate_left
          · (intro wz hSw; (try dsimp only at hSw); go_simp; (try with_reducible rfl))
          simp only [Act.put]
          refine wpAnyT_take (i := 18) (v := ?_) rfl (by kernel_rfl) (by kernel_rfl) (by kernel_rfl) (fun _ _ _ h => h) (Or.inl ⟨by rfl, ?_⟩) hS02 ?_
          rotate_left
          · (intro wz hSw; (try dsimp only at hSw); go_simp; (try with_reducible rfl))
          simp only [Act.put]
          refine wpAnyT_one (i := 19) (by kernel_rfl) rfl (fun K hK => ?_)
          go_simp
          have hmr3 := hmr.store m (by omega) _ _ _ _ hr2
          have hor3 := hor.other ⟨gm, om + m, none⟩ (.slice au lua cu) (Ne.symm hne) hmr.apart
          replace hOR := hOR.setCell ⟨gm, om + m, none⟩ (.slice au lua cu) (.inl (by simp))
          have hS03 : (w2.setCell ⟨gm, om + m, none⟩ (.slice au lua cu)).cell? ⟨bx, 0, none⟩ = some (.slice (some ⟨gm, om, none⟩) n cm) ∧ (w2.setCell ⟨gm, om + m, none⟩ (.slice au lua cu)).cell? ⟨bx, 1, none⟩ = some (.slice (some ⟨go', oo, none⟩) n co) := ⟨(World.cell?_setCell_far _ _ _ _ (by simp; omega)).trans hS02.1, (World.cell?_setCell_far _ _ _ _ (by simp; omega)).trans hS02.2⟩
          generalize (w2.setCell ⟨gm, om + m, none⟩ (.slice au lua cu)) = w3 at *
          refine hK.out _ _ hS03 (fun h => absurd h (by decide)) ?_
          clear hK K hS02 hmr hor hcz hfz hr2
          refine wpAnyT_done (by kernel_rfl) ?_ _
          obtain ⟨q0, q1⟩ := hS03
          go_wp2_with fail
          obtain ⟨e1b, f1b, u1, v1⟩ := hor3.read m (by omega)
          obtain ⟨e2b, f2b, u2, v2⟩ := hor3.read row (by omega)
          rw [HW2.out m (by omega)] at u1 v1
          rw [HW2.out row (by omega)] at u2 v2
          refine wp_region_T (fun w' => w'.cell? ⟨bx, 0, none⟩ = some (.slice (some ⟨gm, om, none⟩) n cm) ∧ w'.cell? ⟨bx, 1, none⟩ = some (.slice (some ⟨go', oo, none⟩) n co)) (fun w' => w'.cell? ⟨go', oo + m, none⟩ = some (.slice e1b wo f1b) ∧ w'.cell? ⟨go', oo + row, none⟩ = some (.slice e2b wo f2b)) (fun j => j == 19) (by kernel_rfl) ?_
          have hS0 : w3.drew.cell? ⟨bx, 0, none⟩ = some (.slice (some ⟨gm, om, none⟩) n cm) ∧ w3.drew.cell? ⟨bx, 1, none⟩ = some (.slice (some ⟨go', oo, none⟩) n co) := ⟨q0, q1⟩
          have hS1 : w3.drew.cell? ⟨go', oo + m, none⟩ = some (.slice e1b wo f1b) ∧ w3.drew.cell? ⟨go', oo + row, none⟩ = some (.slice e2b wo f2b) := ⟨u1, u2⟩
          have hbd := (Below.refl w3.heap.size w3).drew
          replace hor3 := hor3.chain hbd
          replace hmr3 := hmr3.chain hbd
          replace v1 := v1.chain hbd
          replace v2 := v2.chain hbd
          have qx : bx < w3.drew.heap.size := World.block_lt_of_cell? _ _ q0
          replace hOR := hOR.drew
          clear hbd q0 q1 u1 u2
          generalize w3.drew = w3d at *
          have l1 := hor3.lt
          have l2 := hmr3.lt
          refine wpAnyT_take (i := 0) (v := ?_) rfl (by kernel_rfl) (by kernel_rfl) (by kernel_rfl) (fun _ _ _ h => h) (Or.inl ⟨by rfl, ?_⟩) hS0 ?_
          rotate_left
          · (intro wz hSw; (try dsimp only at hSw); go_simp; (try with_reducible rfl))
          simp only [Act.put, List.setIfInBounds_toArray]
          refine wpAnyT_take (i := 1) (v := ?_) rfl (by kernel_rfl) (by kernel_rfl) (by kernel_rfl) (fun _ _ _ h => h) (Or.inl ⟨by rfl, ?_⟩) hS0 ?_
          rotate_left
          · (intro wz hSw; (try dsimp only at hSw); go_simp; (try with_reducible rfl))
          simp only [Act.put]
          refine wpAnyT_take (i := 2) (v := ?_) rfl (by kernel_rfl) (by kernel_rfl) (by kernel_rfl) (fun _ _ _ h => h) (Or.inl ⟨by rfl, ?_⟩) hS0 ?_
          rotate_left
          · (intro wz hSw; (try dsimp only at hSw); go_simp; (try with_reducible rfl))
          simp only [Act.put]
          refine wpAnyT_take (i := 3) (v := ?_) rfl (by kernel_rfl) (by kernel_rfl) (by kernel_rfl) (fun _ _ _ h => h) (Or.inl ⟨by rfl, ?_⟩) hS0 ?_
          rotate_left
          · (intro wz hSw; (try dsimp only at hSw); go_simp; (try with_reducible rfl))
          simp only [Act.put]
          refine wpAnyT_take (i := 4) (v := ?_) rfl (by kernel_rfl) (by kernel_rfl) (by kernel_rfl) (fun _ _ _ h => h) (Or.inl ⟨by rfl, ?_⟩) hS0 ?_
          rotate_left
          · (intro wz hSw; (try dsimp only at hSw); go_simp; (try with_reducible rfl))
          simp only [Act.put]
          refine wpAnyT_take (i := 5) (v := ?_) rfl (by kernel_rfl) (by kernel_rfl) (by kernel_rfl) (fun _ _ _ h => h) (Or.inl ⟨by rfl, ?_⟩) hS0 ?_
          rotate_left
          · (intro wz hSw; (try dsimp only at hSw); go_simp; (try with_reducible rfl))
          simp only [Act.put]
          refine wpAnyT_take (i := 6) (v := ?_) rfl (by kernel_rfl) (by kernel_rfl) (by kernel_rfl) (fun _ _ _ h => h) (Or.inl ⟨by rfl, ?_⟩) hS0 ?_
          rotate_left
          · (intro wz hSw; (try dsimp only at hSw); go_simp; (try with_reducible rfl))
          simp only [Act.put]
          refine wpAnyT_takeS (i := 7) (v := ?_) rfl (by kernel_rfl) (by kernel_rfl) (by kernel_rfl) (by kernel_rfl) (fun _ _ _ h => h) (Or.inl ⟨by rfl, ?_⟩) hS0 hS1 ?_
          rotate_left
          · (intro wz hSw; (try dsimp only at hSw); go_simp; (try with_reducible rfl))
          simp only [Act.put]
          refine wpAnyT_take (i := 8) (v := ?_) rfl (by kernel_rfl) (by kernel_rfl) (by kernel_rfl) (fun _ _ _ h => h) (Or.inl ⟨by rfl, ?_⟩) hS0 ?_
          rotate_left
          · (intro wz hSw; (try dsimp only at hSw); go_simp; (try with_reducible rfl))
          simp only [Act.put]
          refine wpAnyT_take (i := 9) (v := ?_) rfl (by kernel_rfl) (by kernel_rfl) (by kernel_rfl) (fun _ _ _ h => h) (Or.inl ⟨by rfl, ?_⟩) hS0 ?_
          rotate_left
          · (intro wz hSw; (try dsimp only at hSw); go_simp; (try with_reducible rfl))
          simp only [Act.put]
          refine wpAnyT_take (i := 10) (v := ?_) rfl (by kernel_rfl) (by kernel_rfl) (by kernel_rfl) (fun _ _ _ h => h) (Or.inl ⟨by rfl, ?_⟩) hS0 ?_
          rotate_left
          · (intro wz hSw; (try dsimp only at hSw); go_simp; (try with_reducible rfl))
          simp only [Act.put]
          refine wpAnyT_take (i := 11) (v := ?_) rfl (by kernel_rfl) (by kernel_rfl) (by kernel_rfl) (fun _ _ _ h => h) (Or.inl ⟨by rfl, ?_⟩) hS0 ?_
          rotate_left
          · (intro wz hSw; (try dsimp only at hSw); go_simp; (try with_reducible rfl))
          simp only [Act.put]
          refine wpAnyT_take (i := 12) (v := ?_) rfl (by kernel_rfl) (by kernel_rfl) (by kernel_rfl) (fun _ _ _ h => h) (Or.inl ⟨by rfl, ?_⟩) hS0 ?_
          rotate_left
          · (intro wz hSw; (try dsimp only at hSw); go_simp; (try with_reducible rfl))
          simp only [Act.put]
          refine wpAnyT_takeS (i := 13) (v := ?_) rfl (by kernel_rfl) (by kernel_rfl) (by kernel_rfl) (by kernel_rfl) (fun _ _ _ h => h) (Or.inl ⟨by rfl, ?_⟩) hS0 hS1 ?_
          rotate_left
          · (intro wz hSw; (try dsimp only at hSw); go_simp; (try with_reducible rfl))
          simp only [Act.put]
          refine wpAnyT_one (i := 14) (by kernel_rfl) rfl (fun K hK => ?_)
          go_simp
          refine (muladd_any 0 _ _ R2[m] R2[row] xx hx256 (by rw [HW2.out row (by omega)]; omega) _ v1 v2).mono ?_
          rintro x w2 ⟨u, rfl, hr2, hB2⟩
          have hle : R2[m].length = (scaleL xx R2[row]).length := by rw [scaleL_length, HW2.out m (by omega), HW2.out row (by omega)]
          have hE : lenE R2[m] (scaleL xx R2[row]) = 0 := by unfold lenE; rw [if_pos hle]
          have hV : addV R2[m] (scaleL xx R2[row]) = mulAddL R2[m] xx R2[row] := by unfold addV; rw [if_pos hle]; rfl
          rw [hE]
          rw [hV] at hr2
          obtain ⟨au, cu, rfl, -⟩ := hr2.at
          have hS02 : w2.cell? ⟨bx, 0, none⟩ = some (.slice (some ⟨gm, om, none⟩) n cm) ∧ w2.cell? ⟨bx, 1, none⟩ = some (.slice (some ⟨go', oo, none⟩) n co) := ⟨(hB2.cell (p := ⟨bx, 0, none⟩) qx).trans hS0.1, (hB2.cell (p := ⟨bx, 1, none⟩) qx).trans hS0.2⟩
          refine hK.out _ _ hS02 (fun _ h => ⟨(hB2.cell (p := ⟨go', oo + m, none⟩) l1).trans h.1, (hB2.cell (p := ⟨go', oo + row, none⟩) l1).trans h.2⟩) ?_
          clear hK K hS1 hE hV hle
          replace hor3 := hor3.chain hB2
          replace hmr3 := hmr3.chain hB2
          replace hOR := hOR.trans ((Only.of_below (S := []) hB2).mono (S' := [gm, go']) (by simp))
          clear hS0 v1 v2 l1 l2 qx hB2
          generalize (mulAddL R2[m] xx R2[row]).length = lub at *
          obtain ⟨az, cz, hcz, -⟩ := hor3.read m (by omega)
          have hfz := hor3.free (oo + m)
          refine wpAnyT_take (i := 15) (v := ?_) rfl (by kernel_rfl) (by kernel_rfl) (by kernel_rfl) (fun _ _ _ h => h) (Or.inl ⟨by rfl, ?_⟩) hS02 ?_
          rotate_left
          · (intro wz hSw; (try dsimp only at hSw); go_simp; (try with_reducible rfl))
          simp only [Act.put]
          refine wpAnyT_take (i := 16) (v := ?_) rfl (by kernel_rfl) (by kernel_rfl) (by kernel_rfl) (fun _ _ _ h => h) (Or.inl ⟨by rfl, ?_⟩) hS02 ?_
          rotate_left
          · (intro wz hSw; (try dsimp only at hSw); go_simp; (try with_reducible rfl))
          simp only [Act.put]
          refine wpAnyT_take (i := 17) (v := ?_) rfl (by kernel_rfl) (by kernel_rfl) (by kernel_rfl) (fun _ _ _ h => h) (Or.inl ⟨by rfl, ?_⟩) hS02 ?_
          rotate_left
          · (intro wz hSw; (try dsimp only at hSw); go_simp; (try with_reducible rfl))
          simp only [Act.put]
          refine wpAnyT_take (i := 18) (v := ?_) rfl (by kernel_rfl) (by kernel_rfl) (by kernel_rfl) (fun _ _ _ h => h) (Or.inl ⟨by rfl, ?_⟩) hS02 ?_
          rotate_left
          · (intro wz hSw; (try dsimp only at hSw); go_simp; (try with_reducible rfl))
          simp only [Act.put]
          refine wpAnyT_one (i := 19) (by kernel_rfl) rfl (fun K hK => ?_)
          go_simp
          have hor33 := hor3.store m (by omega) _ _ _ _ hr2
          have hmr33 := hmr3.other ⟨go', oo + m, none⟩ (.slice au lub cu) (hne) hor3.apart
          replace hOR := hOR.setCell ⟨go', oo + m, none⟩ (.slice au lub cu) (.inl (by simp))
          have hS03 : (w2.setCell ⟨go', oo + m, none⟩ (.slice au lub cu)).cell? ⟨bx, 0, none⟩ = some (.slice (some ⟨gm, om, none⟩) n cm) ∧ (w2.setCell ⟨go', oo + m, none⟩ (.slice au lub cu)).cell? ⟨bx, 1, none⟩ = some (.slice (some ⟨go', oo, none⟩) n co) := ⟨(World.cell?_setCell_far _ _ _ _ (by simp; omega)).trans hS02.1, (World.cell?_setCell_far _ _ _ _ (by simp; omega)).trans hS02.2⟩
          generalize (w2.setCell ⟨go', oo + m, none⟩ (.slice au lub cu)) = w4 at *
          refine hK.out _ _ hS03 (fun h => absurd h (by decide)) ?_
          clear hK K hS02 hor3 hmr3 hcz hfz hr2
          refine wpAnyT_done (by kernel_rfl) ?_ _
          obtain ⟨q0, q1⟩ := hS03
          go_wp2_with fail
          go_roundw
          case rel => exact ⟨m + 1, by omega, by go_num, by rw [HS.out, ← HSET.out.1]; exact hmr33, by rw [HS.out, ← HSET.out.2]; exact hor33, hOR, q0, q1⟩
          case measure => simp [intOf]; omega
    · obtain rfl : m = n := by omega
      go_wp2_with fail
      go_end0
      subst hl
      exact ⟨rfl, ⟨hmr, hor, hne, by unfold clearL; rw [(clearSo_len row place M O _).1, (clearSo_len row place M O _).2]; exact hlo⟩, hOR⟩
end Go.Proofs.YtelpkddgcmikfaaDoor
namespace Go.Proofs.YtelpkddgcmikfaaDoor
open Go.RowKit
set_option linter.unusedVariables false
set_option maxRecDepth 100000
set_option maxHeartbeats 2000000
abbrev Tab := List (List Nat)
def stepP (s : Nat × (Tab × Tab)) (place : Nat) : Nat × (Tab × Tab) :=
  if s.1 = s.2.1.length then s else match pivL s.2.1 s.1 place with
    | none => s
    | some i => (s.1 + 1, clearL s.1 place (swapL s.2.1 s.1 i) (swapL s.2.2 s.1 i))
def redSo (M O : Tab) (p : Nat) : Nat × (Tab × Tab) := (List.range p).foldl stepP (0, (M, O))
theorem redSo_succ (M O : Tab) (p : Nat) : redSo M O (p + 1) = stepP (redSo M O p) p := by
  unfold redSo
  rw [List.range_succ, List.foldl_append]
  rfl
theorem stepP_full {s : Nat × (Tab × Tab)} (h : s.1 = s.2.1.length) (p : Nat) : stepP s p = s := by unfold stepP; rw [if_pos h]
theorem stepP_none {s : Nat × (Tab × Tab)} (h : s.1 ≠ s.2.1.length) (p : Nat) (hp : pivL s.2.1 s.1 p = none) : stepP s p = s := by unfold stepP; rw [if_neg h, hp]
theorem stepP_some {s : Nat × (Tab × Tab)} (h : s.1 ≠ s.2.1.length) (p i : Nat) (hp : pivL s.2.1 s.1 p = some i) : stepP s p = (s.1 + 1, clearL s.1 p (swapL s.2.1 s.1 i) (swapL s.2.2 s.1 i)) := by unfold stepP; rw [if_neg h, hp]
theorem redSo_full {M O : Tab} {p : Nat} (h : (redSo M O p).1 = (redSo M O p).2.1.length) : ∀ k, redSo M O (p + k) = redSo M O p
  | 0 => rfl
  | k + 1 => by
    rw [← Nat.add_assoc, redSo_succ, redSo_full h k]
    exact stepP_full h _
theorem pivN_spec (M : Tab) (place : Nat) : ∀ k i j, pivN M place k i = some j → i ≤ j ∧ j < i + k ∧ entM M j place ≠ 0
  | 0, i, j, h => by cases h
  | k + 1, i, j, h => by
    by_cases hz : entM M i place = 0
    · rw [pivN_step M place k i hz] at h
      have := pivN_spec M place k (i + 1) j h
      exact ⟨by omega, by omega, this.2.2⟩
    · rw [pivN_hit M place k i hz] at h
      cases h
      exact ⟨Nat.le_refl _, by omega, hz⟩
theorem pivL_spec {M : Tab} {a place j : Nat} (h : pivL M a place = some j) : a ≤ j ∧ j < M.length ∧ entM M j place ≠ 0 := by
  unfold pivL at h
  have := pivN_spec M place _ a j h
  refine ⟨this.1, ?_, this.2.2⟩
  have h1 := this.1
  have h2 := this.2.1
  by_cases hh : a ≤ M.length
  · omega
  · rw [Nat.sub_eq_zero_of_le (by omega)] at h
    cases h
theorem swapL_wide {R : Tab} {x i k : Nat} (h : Wide R x) (hi : i < R.length) (hk : k < R.length) : Wide (swapL R i k) x := by
  unfold swapL
  rw [getD_get R k _ hk, getD_get R i _ hi]
  exact (h.set (h k hk)).set (h i hi)
theorem entM_swap (M : Tab) (a i place : Nat) (ha : a < M.length) (hi : i < M.length) : entM (swapL M a i) a place = entM M i place := by
  unfold entM swapL
  rw [getD_get M i _ hi, getD_get M a _ ha]
  congr 1
  rw [getD_get _ a _ (by simpa using ha)]
  by_cases e : i = a
  · subst e; simp
  · rw [List.getElem_set_ne e]; simp
theorem stepP_inv {s : Nat × (Tab × Tab)} {p x y n : Nat} (h1 : s.2.1.length = n) (h2 : s.2.2.length = n) (ha : s.1 ≤ n) (hx : Wide s.2.1 x) (hy : Wide s.2.2 y) :
    (stepP s p).2.1.length = n ∧ (stepP s p).2.2.length = n ∧ (stepP s p).1 ≤ n ∧ Wide (stepP s p).2.1 x ∧ Wide (stepP s p).2.2 y := by
  by_cases hf : s.1 = s.2.1.length
  · rw [stepP_full hf]; exact ⟨h1, h2, ha, hx, hy⟩
  · cases hp : pivL s.2.1 s.1 p with
    | none => rw [stepP_none hf p hp]; exact ⟨h1, h2, ha, hx, hy⟩
    | some i =>
      rw [stepP_some hf p i hp]
      have hs := pivL_spec hp
      have l1 : (swapL s.2.1 s.1 i).length = n := by rw [swapL_length, h1]
      have l2 : (swapL s.2.2 s.1 i).length = n := by rw [swapL_length, h2]
      have w1 := swapL_wide (i := s.1) (k := i) hx (by omega) (by omega)
      have w2 := swapL_wide (i := s.1) (k := i) hy (by omega) (by omega)
      have c1 := clearSo_len s.1 p (swapL s.2.1 s.1 i) (swapL s.2.2 s.1 i) (swapL s.2.1 s.1 i).length
      have c2 := clearSo_wide (row := s.1) (place := p) w1 w2 (by omega) (by omega) (swapL s.2.1 s.1 i).length (Nat.le_refl _)
      exact ⟨c1.1.trans l1, c1.2.trans l2, by show s.1 + 1 ≤ n; omega, c2.1, c2.2⟩
theorem redSo_inv {M O : Tab} {x y n : Nat} (h1 : M.length = n) (h2 : O.length = n) (hx : Wide M x) (hy : Wide O y) : ∀ p,
    (redSo M O p).2.1.length = n ∧ (redSo M O p).2.2.length = n ∧ (redSo M O p).1 ≤ n ∧ Wide (redSo M O p).2.1 x ∧ Wide (redSo M O p).2.2 y
  | 0 => ⟨h1, h2, Nat.zero_le _, hx, hy⟩
  | p + 1 => by
    rw [redSo_succ]
    have h := redSo_inv h1 h2 hx hy p
    exact stepP_inv h.1 h.2.1 h.2.2.1 h.2.2.2.1 h.2.2.2.2
theorem reduce_any (gm om cm go' oo co n wm wo : Nat) (M O : Tab) (hn0 : 1 ≤ n) (hn : n ≤ 255) (w : World) (h : OwnP w gm om go' oo M O) (hl : M.length = n) (hM : Wide M wm) (hO : Wide O wo) (hwm : wm ≤ 255) (hwo : wo ≤ 255) :
    Calls Tryd.prog 67 #[.agg #[.slice (some ⟨gm, om, none⟩) n cm, .slice (some ⟨go', oo, none⟩) n co]] w fun e w' => e = .returned (.int .i64 ((redSo M O wm).1 : Nat)) ∧ OwnP w' gm om go' oo (redSo M O wm).2.1 (redSo M O wm).2.2 ∧ Only [gm, go'] w w' := by
  have lm := h.m.lt
  have lo := h.o.lt
  have hne := h.ne
  have hlo : O.length = n := by have := h.len; omega
  have kb := Blk.new w #[.slice (some ⟨gm, om, none⟩) n cm, .slice (some ⟨go', oo, none⟩) n co] 120
  have hB := Below.chainAlloc (Below.refl w.heap.size w) (.cells #[.slice (some ⟨gm, om, none⟩) n cm, .slice (some ⟨go', oo, none⟩) n co] 120)
  have q0 : (w.alloc (.cells #[.slice (some ⟨gm, om, none⟩) n cm, .slice (some ⟨go', oo, none⟩) n co] 120)).cell? ⟨w.heap.size, 0, none⟩ = some (.slice (some ⟨gm, om, none⟩) n cm) := kb.facts.1 0
  have q1 : (w.alloc (.cells #[.slice (some ⟨gm, om, none⟩) n cm, .slice (some ⟨go', oo, none⟩) n co] 120)).cell? ⟨w.heap.size, 1, none⟩ = some (.slice (some ⟨go', oo, none⟩) n co) := kb.facts.1 1
  obtain ⟨a0, c0, m0, -⟩ := h.m.read 0 (by omega)
  replace m0 := (hB.cell (p := ⟨gm, om + 0, none⟩) lm).trans m0
  rw [Nat.add_zero, hM 0 (by omega)] at m0
  have HINV := Lib.hid (fun p => redSo_inv hl hlo hM hO p)
  go_enter Tryd.func67, Tryd.ntmps67
  go_wp2_with fail
  have hp := h.chain hB
  have hOW := (Only.of_below (S := []) hB).mono (S' := [gm, go']) (by simp)
  have kB : Blk (w.alloc (.cells #[.slice (some ⟨gm, om, none⟩) n cm, .slice (some ⟨go', oo, none⟩) n co] 120)) w.heap.size #[.slice (some ⟨gm, om, none⟩) n cm, .slice (some ⟨go', oo, none⟩) n co] 120 := kb
  clear h kb hB m0 q0 q1
  generalize (w.alloc (.cells #[.slice (some ⟨gm, om, none⟩) n cm, .slice (some ⟨go', oo, none⟩) n co] 120)) = W at *
  generalize hbx : w.heap.size = bx at *
  have hmbx : bx ∉ [gm, go'] := by simp; omega
  clear hbx
  go_loopw [3, 4, 5, 11] (fun a _ _ i wr => ∃ p : Nat, p ≤ wm ∧ i = .int .i64 p ∧ a = .int .i64 ((redSo M O p).1 : Nat) ∧ OwnP wr gm om go' oo (redSo M O p).2.1 (redSo M O p).2.2 ∧ Only [gm, go'] w wr ∧ Blk wr bx #[.slice (some ⟨gm, om, none⟩) n cm, .slice (some ⟨go', oo, none⟩) n co] 120) (fun _ _ _ i _ => wm - (intOf i).toNat)
  case atStart => exact ⟨0, by omega, rfl, rfl, hp, hOW, kB⟩
  case round =>
    clear hp hOW kB
    obtain ⟨p, hpw, rfl, rfl, hP, hO', hk⟩ := hrel
    have hinv := HINV.out p
    have HSTEP := Lib.hid (redSo_succ M O p)
    have HFULL := Lib.hid (redSo_full (M := M) (O := O) (p := p))
    have q0 : wr.cell? ⟨bx, 0, none⟩ = some (.slice (some ⟨gm, om, none⟩) n cm) := hk.facts.1 0
    have q1 : wr.cell? ⟨bx, 1, none⟩ = some (.slice (some ⟨go', oo, none⟩) n co) := hk.facts.1 1
    obtain ⟨i1, i2, i3, i4, i5⟩ := hinv
    by_cases hlt : p < wm
    · by_cases hfull : (redSo M O p).1 = n
      · have hfin : redSo M O wm = redSo M O p := by
          have := HFULL.out (by rw [i1]; exact hfull) (wm - p)
          rwa [show p + (wm - p) = wm by omega] at this
        have HFIN := Lib.hid hfin
        have heq : (((redSo M O p).1 : Int) == (n : Int)) = true := by simp; omega
        clear hfin hfull HSTEP HFULL
        generalize redSo M O p = s at *
        go_wp2_with fail
        go_ret
        rw [HFIN.out]
        exact ⟨rfl, hP, hO'⟩
      · have heq : (((redSo M O p).1 : Int) == (n : Int)) = false := by simp; omega
        have hnf : (redSo M O p).1 ≠ (redSo M O p).2.1.length := by rw [i1]; exact hfull
        have hpz := pivZ_eq (redSo M O p).2.1 (redSo M O p).1 p
        have hpiv := fun wx h => pivot_any gm om cm go' oo co n (redSo M O p).2.1 (redSo M O p).2.2 (redSo M O p).1 p i3 hn wx h i1 (fun i hi => by rw [i4 i hi]; exact hlt) (by omega)
        have HPIV := Lib.hid hpiv
        cases hpc : pivL (redSo M O p).2.1 (redSo M O p).1 p with
        | none =>
          rw [hpc] at hpz
          have hst := HSTEP.out.trans (stepP_none hnf p hpc)
          have HST := Lib.hid hst
          have HZ : Hid (pivZ (redSo M O p).2.1 (redSo M O p).1 p = -1) := hpz
          clear hst hpz hpc hnf hpiv HSTEP HFULL hfull
          generalize redSo M O p = s at *
          go_wp2_with fail
          refine (HPIV.out _ hP).mono ?_
          rw [HZ.out]
          rintro x w2 ⟨rfl, hb2⟩
          replace hP := hP.chain hb2
          replace hO' := hO'.trans ((Only.of_below (S := []) hb2).mono (S' := [gm, go']) (by simp))
          replace hk := hk.below hb2 hk.lt
          clear hb2 q0 q1 HPIV
          go_wp2_with fail
          go_roundw
          case rel => exact ⟨p + 1, by omega, by go_num, by rw [HST.out], by rw [HST.out]; exact hP, hO', hk⟩
          case measure => simp [intOf]; omega
        | some i =>
          rw [hpc] at hpz
          have hsp := pivL_spec hpc
          have hst := HSTEP.out.trans (stepP_some hnf p i hpc)
          have HST := Lib.hid hst
          have HZ : Hid (pivZ (redSo M O p).2.1 (redSo M O p).1 p = (i : Int)) := hpz
          obtain ⟨hs1, hs2, hs3⟩ := hsp
          have hin : i < n := by omega
          have han : (redSo M O p).1 < n := by omega
          have l1 : (swapL (redSo M O p).2.1 (redSo M O p).1 i).length = n := by rw [swapL_length, i1]
          have w1 := swapL_wide (i := (redSo M O p).1) (k := i) i4 (by omega) (by omega)
          have w2 := swapL_wide (i := (redSo M O p).1) (k := i) i5 (by omega) (by omega)
          have hnz : entM (swapL (redSo M O p).2.1 (redSo M O p).1 i) (redSo M O p).1 p ≠ 0 := by rw [entM_swap _ _ _ _ (by omega) (by omega)]; exact hs3
          have hsw := fun wx h => swap_any gm om cm go' oo co n (redSo M O p).2.1 (redSo M O p).2.2 (redSo M O p).1 i han hin hn wx h i1
          have hcl := fun wx h => clear_any gm om cm go' oo co n wm wo (swapL (redSo M O p).2.1 (redSo M O p).1 i) (swapL (redSo M O p).2.2 (redSo M O p).1 i) (redSo M O p).1 p han hn wx h l1 w1 w2 hlt hwm hwo hnz
          have HSW := Lib.hid hsw
          have HCL := Lib.hid hcl
          have hne1 : ((i : Int) != -1) = true := by simp
          clear hst hpz hpc hnf hpiv HSTEP HFULL hfull hsw hcl hs3 l1 w1 w2 hnz
          generalize redSo M O p = s at *
          go_wp2_with fail
          refine (HPIV.out _ hP).mono ?_
          rw [HZ.out]
          rintro x w2 ⟨rfl, hb2⟩
          replace hP := hP.chain hb2
          replace hO' := hO'.trans ((Only.of_below (S := []) hb2).mono (S' := [gm, go']) (by simp))
          replace hk := hk.below hb2 hk.lt
          clear hb2 q0 q1 HPIV
          have q0 : w2.cell? ⟨bx, 0, none⟩ = some (.slice (some ⟨gm, om, none⟩) n cm) := hk.facts.1 0
          have q1 : w2.cell? ⟨bx, 1, none⟩ = some (.slice (some ⟨go', oo, none⟩) n co) := hk.facts.1 1
          go_wp2_with fail
          refine (HSW.out _ hP).mono ?_
          rintro x w3 ⟨rfl, hP3, ho3⟩
          replace hO' := hO'.trans ho3
          replace hk := hk.only ho3 hmbx
          clear q0 q1 ho3 hP HSW
          have q0 : w3.cell? ⟨bx, 0, none⟩ = some (.slice (some ⟨gm, om, none⟩) n cm) := hk.facts.1 0
          have q1 : w3.cell? ⟨bx, 1, none⟩ = some (.slice (some ⟨go', oo, none⟩) n co) := hk.facts.1 1
          go_wp2_with fail
          refine (HCL.out _ hP3).mono ?_
          rintro x w4 ⟨rfl, hP4, ho4⟩
          replace hO' := hO'.trans ho4
          replace hk := hk.only ho4 hmbx
          clear q0 q1 ho4 hP3 HCL
          go_wp2_with fail
          go_roundw
          case rel => exact ⟨p + 1, by omega, by go_num, by rw [HST.out]; go_num, by rw [HST.out]; exact hP4, hO', hk⟩
          case measure => simp [intOf]; omega
    · obtain rfl : p = wm := by omega
      go_wp2_with fail
      go_ret
      exact ⟨rfl, hP, hO'⟩
end Go.Proofs.YtelpkddgcmikfaaDoor
namespace Go.Proofs.YtelpkddgcmikfaaDoor
open Go.RowKit
set_option linter.unusedVariables false
set_option maxRecDepth 100000
set_option maxHeartbeats 2000000
theorem below_of_grown {w w' : World} (h : w.grownBy w' none) : Below w.heap.size w w' := ⟨h.os, h.tape, h.output, h.size, fun k hk => h.block k hk (by simp)⟩
theorem u8s_one (bs : List Nat) : ∀ u ∈ u8s bs, u.oneCell' = true := fun u hu => by
  obtain ⟨x, _, rfl⟩ := List.mem_map.1 hu
  rfl
theorem copied_any (B : Nat) (v : Value) (rows : Tab) (hn : rows.length ≤ 255) (hw : ∀ i (h : i < rows.length), rows[i].length ≤ 65536) (w : World) (h : MatAt B w v rows) :
    Calls Tryd.prog 66 #[v] w fun e w' => e = .returned (.slice (some ⟨w.heap.size, 0, none⟩) rows.length rows.length) ∧ OwnM w' w.heap.size 0 rows ∧ Below w.heap.size w w' := by
  have h0 := h
  obtain ⟨a, cap, rfl, hm, -⟩ := h.at
  clear h
  have hmk := mk_rows rows.length (by omega)
  have HW := Lib.hid hw
  obtain ⟨i0, hi, hz0, hz1, hz2⟩ := info_parts infoU8
  clear hw
  go_enter Tryd.func66, Tryd.ntmps66
  go_wp2_with fail
  clear hmk
  have hb := OwnM.new w rows.length
  have hB := Below.chainAlloc (Below.refl w.heap.size w) (.cells (Array.replicate rows.length (Value.slice none 0 0)) 45)
  generalize w.alloc (.cells (Array.replicate rows.length (Value.slice none 0 0)) 45) = W at *
  go_loopw [4, 5, 11] (fun _ _ i wr => ∃ m : Nat, m ≤ rows.length ∧ i = .int .i64 m ∧ OwnM wr w.heap.size 0 (soFar rows (List.replicate rows.length []) m) ∧ Below w.heap.size w wr) (fun _ _ i _ => rows.length - (intOf i).toNat)
  case atStart => exact ⟨0, by omega, rfl, by rw [soFar_zero]; exact hb, hB⟩
  case round =>
    clear hb hB
    obtain ⟨m, hm', rfl, hb, hB⟩ := hrel
    by_cases hlt : m < rows.length
    · obtain ⟨_, _, e, -, hc⟩ := (h0.chain hB).at
      cases e
      obtain ⟨g, off, u, rfl, hg, hck, hru⟩ := hc m hlt
      obtain ⟨au, cu, rfl, -⟩ := hru.at
      have hlw := HW.out m hlt
      have hlen := soFar_length rows (List.replicate rows.length []) m (by simp) hm'
      have HLEN := Lib.hid hlen
      have hsn := soFar_set rows (List.replicate rows.length []) m (by simp) hlt
      have HSN := Lib.hid hsn
      have hbz : w.heap.size ≤ wr.heap.size := hB.size
      have hu8 := u8s_length rows[m]
      have HU8 := Lib.hid hu8
      have hone := u8s_one rows[m]
      have HONE := Lib.hid hone
      have h256 := hru.2
      have H256 := Lib.hid h256
      have hsl := hru.1
      clear hc hlen hsn hone h256 hru
      generalize rows[m] = rm at *
      generalize rm.length = lr at *
      generalize soFar rows (List.replicate rows.length []) m = R at *
      go_wp2_with (at_builtin; refine wpList_append_sl rfl (.const (.slice none 0 0)) (.tmp 18) 45 rfl w.heap.size B 5 5 i0 _ 1 Tryd.underlying45 hi hz0 hz1 hz2 rfl (.slice none 0 0) 0 [] rfl (Seg.nil _ _ _ _) (.slice au lr cu) (u8s rm) rfl hsl HONE.out (by unfold maxLen; omega) (by omega) hbz ?_; intro v' w3 hown hgrow hat; rw [List.nil_append, Nat.zero_add, hu8] at hown; have hb3 := below_of_grown hgrow; have hrow := RowAt.of_seg hown H256.out; replace hb := hb.chain hb3; replace hB := Below.chain hb3 hB; obtain ⟨av, cv, rfl⟩ := hown.form; obtain ⟨az, cz, hcz, -⟩ := hb.read m (by rw [HLEN.out]; exact hlt); rw [Nat.zero_add] at hcz; have hfz := hb.free m; have hst := hb.store m (by rw [HLEN.out]; exact hlt) _ _ _ _ hrow; rw [HSN.out, Nat.zero_add] at hst; have HST := Lib.hid hst; have hl := hb.lt; clear hown hgrow hat hb3 hrow hst hck hsl hu8)
      go_roundw
      case rel => exact ⟨m + 1, by omega, by go_num, HST.out, hB.setCell (Nat.le_refl _) _⟩
      case measure => simp [intOf]; omega
    · obtain rfl : m = rows.length := by omega
      rw [soFar_end _ _ rows.length rfl (by simp)] at hb
      go_wp2_with fail
      go_ret
      exact ⟨rfl, hb, hB⟩
def SegPost (rows : Tab) (w : World) (e : Ending) (w' : World) : Prop := ∃ v', e = .returned v' ∧ SegM w' w.heap.size v' rows ∧ Below w.heap.size w w'
theorem rcopied_any (B : Nat) (v : Value) (rows : Tab) (hn : rows.length ≤ 255) (hw : ∀ i (h : i < rows.length), rows[i].length ≤ 65536) (w : World) (h : MatAt B w v rows) :
    Calls Tryd.prog 58 #[v] w (SegPost rows w) := by
  have h0 := h
  obtain ⟨a, cap, rfl, hm, -⟩ := h.at
  clear h
  have HW := Lib.hid hw
  obtain ⟨i0, hi, hz0, hz1, hz2⟩ := info_parts infoU8
  obtain ⟨j0, hj, hy0, hy1, hy2⟩ := info_parts infoRow
  clear hw
  go_enter Tryd.func58, Tryd.ntmps58
  go_wp2_with fail
  go_loopw [3, 4, 5] (fun ov i _ wr => ∃ m : Nat, m ≤ rows.length ∧ i = .int .i64 m ∧ SegM wr w.heap.size ov (rows.take m) ∧ Below w.heap.size w wr) (fun _ i _ _ => rows.length - (intOf i).toNat)
  case atStart => exact ⟨0, by omega, rfl, SegM.nil _ _, Below.refl _ _⟩
  case round =>
    obtain ⟨m, hm', rfl, hs, hB⟩ := hrel
    have htl : (rows.take m).length = m := by simp; omega
    obtain ⟨ao, co, rfl⟩ := hs.form htl
    by_cases hlt : m < rows.length
    · obtain ⟨_, _, e, -, hc⟩ := (h0.chain hB).at
      cases e
      obtain ⟨g, off, u, rfl, hg, hck, hru⟩ := hc m hlt
      obtain ⟨au, cu, rfl, -⟩ := hru.at
      have hlw := HW.out m hlt
      have hsn : rows.take (m + 1) = rows.take m ++ [rows[m]] := List.take_succ_eq_append_getElem hlt
      have HSN := Lib.hid hsn
      have HTL := Lib.hid htl
      have hbz : w.heap.size ≤ wr.heap.size := hB.size
      have hu8 := u8s_length rows[m]
      have hone := u8s_one rows[m]
      have HONE := Lib.hid hone
      have h256 := hru.2
      have H256 := Lib.hid h256
      have hsl := hru.1
      clear hc hsn hone h256 hru htl
      generalize rows[m] = rm at *
      generalize rm.length = lr at *
      go_wp2_with (first
        | (at_builtin; refine wpList_append_sl rfl (.tmp 12) (.tmp 16) 45 rfl w.heap.size B 5 5 i0 _ 1 Tryd.underlying45 hi hz0 hz1 hz2 rfl (.slice none 0 0) 0 [] rfl (Seg.nil _ _ _ _) (.slice au lr cu) (u8s rm) rfl hsl HONE.out (by unfold maxLen; omega) (by omega) hbz ?_; intro v' w3 hown hgrow hat; rw [List.nil_append, Nat.zero_add, hu8] at hown; have hb3 := below_of_grown hgrow; have hrow := RowAt.of_seg hown H256.out; replace hs := hs.chain hb3; have hB3 := Below.chain hb3 hB; obtain ⟨av, cv, rfl⟩ := hown.form; obtain ⟨vs, hv1, hv2, hv3⟩ := hs; have hv2' := hv2; rw [HTL.out] at hv2; have hbz3 : w.heap.size ≤ w3.heap.size := hB3.size; clear hown hgrow hat hb3 hck hsl hu8)
        | (at_builtin; refine wpList_append_seg _ rfl (.tmp 18) (.tmp 20) 67 rfl w.heap.size 45 j0 _ 1 24 Tryd.underlying67 hj hy0 hy1 hy2 rfl (by decide) (.slice ao m co) m vs rfl (hv2.alloc _) ⟨w3.heap.size, 0, none⟩ 1 1 [.slice av lr cv] rfl rfl (cells_new _ _ _) (by simp [Value.oneCell']) (by decide) (by unfold maxLen; omega) (by omega) (by simp; omega) (w3.heap.size + 1) (size_alloc _ _) ?_; intro g' off' cap' w4 hown2 hgrow2 hat2))
      have hbb := Below.only (Below.chainAlloc hB3 _) (Only.of_grown hgrow2) (fun x hm => (hv2.blk x (by simpa using hm)).1)
      have hsm := SegM.snoc hv1 hv2' hv3 hrow (by rw [HTL.out]; exact hown2) hgrow2
      rw [← HSN.out] at hsm
      clear hgrow2 hat2 hv2 hv2' hv3 hB hB3 hown2 hrow
      go_wp2_with fail
      go_roundw
      case rel => exact ⟨m + 1, by omega, by go_num, hsm, hbb⟩
      case measure => simp [intOf]; omega
    · obtain rfl : m = rows.length := by omega
      rw [List.take_length] at hs
      have HP : Hid (∃ v', Ending.returned (.slice ao rows.length co) = .returned v' ∧ SegM wr w.heap.size v' rows ∧ Below w.heap.size w wr) := ⟨_, rfl, hs, hB⟩
      have hlt' : ¬ (rows.length : Int) < (rows.length : Int) := by omega
      clear hs htl
      go_wp2_with fail
      go_ret
      exact HP.out
end Go.Proofs.YtelpkddgcmikfaaDoor
namespace Go.Proofs.YtelpkddgcmikfaaDoor
open Go.RowKit
set_option linter.unusedVariables false
set_option maxRecDepth 100000
set_option maxHeartbeats 2000000
theorem ident_own (n : Nat) (h1 : 1 ≤ n) (h2 : n ≤ 255) (w : World) : Calls Tryd.prog 65 #[.int .i64 (n : Int)] w fun e w' =>
    e = .returned (.tuple #[.slice (some ⟨w.heap.size, 0, none⟩) n n, .int .i64 0]) ∧ OwnM w' w.heap.size 0 (idM n) ∧ Below w.heap.size w w' := by
  have HB := Lib.hid (badZ_no (n := (n : Int)) (by omega) (by omega))
  have hmk := mk_rows n (by omega)
  have hmk2 := mk_u8 n (by omega)
  go_enter Tryd.func65, Tryd.ntmps65
  go_wp2_with fail
  refine (mbad_any _ _).mono ?_
  rw [HB.out]
  rintro x w1 ⟨rfl, rfl⟩
  go_wp2_with fail
  clear hmk
  have hb := OwnM.new w n
  have hB := Below.chainAlloc (Below.refl w.heap.size w) (.cells (Array.replicate n (Value.slice none 0 0)) 45)
  generalize w.alloc (.cells (Array.replicate n (Value.slice none 0 0)) 45) = W at *
  go_loopw [5, 12] (fun _ i wr => ∃ m : Nat, m ≤ n ∧ i = .int .i64 m ∧ OwnM wr w.heap.size 0 (soFar (idM n) (List.replicate n []) m) ∧ Below w.heap.size w wr) (fun _ i _ => n - (intOf i).toNat)
  case atStart => exact ⟨0, by omega, rfl, by rw [soFar_zero]; exact hb, hB⟩
  case round =>
    clear hb hB
    obtain ⟨m, hm, rfl, hb, hB⟩ := hrel
    by_cases hlt : m < n
    · have hl := hb.lt
      have hlen := soFar_length (idM n) (List.replicate n []) m (by simp [idM]) (by rw [idM_length]; exact hm)
      rw [idM_length] at hlen
      obtain ⟨ax, cx, hcx, -⟩ := hb.read m (by omega)
      rw [Nat.zero_add] at hcx
      have hfr := hb.free m
      have hz : (u8s (List.replicate n 0))[m]? = some (.int .u8 0) := by simp [u8s, hlt]
      have HLEN := Lib.hid hlen
      generalize ((soFar (idM n) (List.replicate n []) m)[m]'_).length = lx at *
      clear hlen
      go_wp2_with fail
      go_roundw
      case rel =>
        refine ⟨m + 1, by omega, by go_num, ?_, ?_⟩
        · rw [setCell_alloc_comm _ _ _ _ hl, show (u8s (List.replicate n 0)).set m (.int .u8 1) = u8s (idRow n m) from u8s_set _ m 1]
          have h1 := OwnB.newOf wr (idRow n m) (idRow_lt n m)
          have h2 := h1.row (B := 0) (cap := n) (by rw [idRow_length]; exact Nat.le_refl _) (by unfold maxLen; omega)
          rw [idRow_length] at h2
          have h3 := (hb.chain (Below.chainAlloc (Below.refl _ _) (.cells (u8s (idRow n m)).toArray 5))).store m (by rw [HLEN.out]; exact hlt) _ _ _ _ h2
          have h4 := soFar_set (idM n) (List.replicate n []) m (by simp [idM]) (by rw [idM_length]; exact hlt)
          rw [show (idM n)[m]'(by rw [idM_length]; exact hlt) = idRow n m by simp [idM]] at h4
          rw [h4, Nat.zero_add] at h3
          exact h3
        · exact Below.chainAlloc (hB.setCell (Nat.le_refl _) _) _
      case measure => simp [intOf]; omega
    · obtain rfl : m = n := by omega
      rw [soFar_end _ _ m (idM_length m) (by simp)] at hb
      go_wp2_with fail
      go_ret2
      exact ⟨rfl, hb, hB⟩

def rankM (rows : Tab) : Nat := (redSo rows (List.replicate rows.length []) (wid rows)).1
def rankV (rows : Tab) : Int := if chkM rows = 0 then rankM rows else 0
def RankPost (rows : Tab) (w : World) (e : Ending) (w' : World) : Prop := e = .returned (.tuple #[.int .i64 (rankV rows), .int .i64 (chkM rows)]) ∧ Below w.heap.size w w'
theorem wide_of {rows : Tab} (h : ∀ r ∈ rows, r.length = wid rows) : Wide rows (wid rows) := fun i hi => h _ (by simp)
theorem wide_nil (n : Nat) : Wide (List.replicate n ([] : List Nat)) 0 := fun i hi => by simp
theorem below_of_only {W w1 w2 : World} {S : List Nat} (h : Below W.heap.size W w1) (ho : Only S w1 w2) (hs : ∀ x ∈ S, W.heap.size ≤ x) : Below W.heap.size W w2 := Below.only h ho hs
end Go.Proofs.YtelpkddgcmikfaaDoor
namespace Go.Proofs.YtelpkddgcmikfaaDoor
open Go.RowKit
set_option linter.unusedVariables false
set_option maxRecDepth 100000
set_option maxHeartbeats 2000000
def redI (rows : Tab) : Nat × (Tab × Tab) := redSo rows (idM rows.length) rows.length
def invE (rows : Tab) : Int := if chkM rows ≠ 0 then chkM rows else if rows.length ≠ wid rows then 16 else if (redI rows).1 < rows.length then 14 else 0
def invV (rows : Tab) : Tab := if invE rows = 0 then (redI rows).2.2 else []
def InvPost (rows : Tab) (w : World) (e : Ending) (w' : World) : Prop := ∃ v, e = .returned (.tuple #[v, .int .i64 (invE rows)]) ∧ MatAt 0 w' v (invV rows) ∧ Below w.heap.size w w'
theorem InvPost.no {rows : Tab} {w w' : World} {z : Int} (h : invE rows = z) (hz : z ≠ 0) (hb : Below w.heap.size w w') : InvPost rows w (.returned (.tuple #[.slice none 0 0, .int .i64 z])) w' :=
  ⟨_, by rw [h], by unfold invV; rw [if_neg (by omega)]; exact MatAt.nil _ _, hb⟩
theorem InvPost.yes {rows : Tab} {w w' : World} {v : Value} (h : invE rows = 0) (hm : MatAt 0 w' v (redI rows).2.2) (hb : Below w.heap.size w w') : InvPost rows w (.returned (.tuple #[v, .int .i64 0])) w' :=
  ⟨_, by rw [h], by unfold invV; rw [if_pos h]; exact hm, hb⟩
theorem invE_chk {rows : Tab} (h : chkM rows ≠ 0) : invE rows = chkM rows := by unfold invE; rw [if_pos h]
theorem invE_len {rows : Tab} (h : chkM rows = 0) (h2 : rows.length ≠ wid rows) : invE rows = 16 := by unfold invE; rw [if_neg (by simpa using h), if_pos h2]
theorem invE_sing {rows : Tab} (h : chkM rows = 0) (h2 : rows.length = wid rows) (h3 : (redI rows).1 < rows.length) : invE rows = 14 := by
  unfold invE; rw [if_neg (by simpa using h), if_neg (by simpa using h2), if_pos h3]
theorem invE_ok {rows : Tab} (h : chkM rows = 0) (h2 : rows.length = wid rows) (h3 : ¬ (redI rows).1 < rows.length) : invE rows = 0 := by
  unfold invE; rw [if_neg (by simpa using h), if_neg (by simpa using h2), if_neg h3]
theorem wide_id (n : Nat) : Wide (idM n) n := fun i hi => by simp [idM, idRow_length]
theorem invert_any (B : Nat) (v : Value) (rows : Tab) (w : World) (h : MatAt B w v rows) : Calls Tryd.prog 46 #[v] w (InvPost rows w) := by
  have h0 := h
  obtain ⟨a, cap, rfl, hm, hc0⟩ := h.at
  clear h
  by_cases hc : chkM rows = 0
  · obtain ⟨⟨n1, n2⟩, ⟨w1, w2⟩, hw⟩ := chkM_zero hc
    have HC := Lib.hid hc
    have HW := Lib.hid (wide_of hw)
    obtain ⟨g, off, u0, rfl, hg, hck, hr0⟩ := hc0 0 (by omega)
    obtain ⟨a0, c0, rfl, -⟩ := hr0.at
    rw [wid_eq (by omega), Nat.add_zero] at hck
    clear hr0 hw hc0
    by_cases hl : rows.length = wid rows
    · have heq : ((rows.length : Int) != (wid rows : Int)) = false := by simp [hl]
      have HL := Lib.hid hl
      have HSING : Hid (∀ wx, (redI rows).1 < rows.length → Below w.heap.size w wx → InvPost rows w (.returned (.tuple #[.slice none 0 0, .int .i64 14])) wx) := fun wx h hx => InvPost.no (invE_sing hc hl h) (by decide) hx
      have HOK : Hid (∀ wx v, ¬ (redI rows).1 < rows.length → MatAt 0 wx v (redI rows).2.2 → Below w.heap.size w wx → InvPost rows w (.returned (.tuple #[v, .int .i64 0])) wx) := fun wx v h hm hx => InvPost.yes (invE_ok hc hl h) hm hx
      have hinv := redSo_inv (M := rows) (O := idM rows.length) (n := rows.length) rfl (idM_length _) HW.out (wide_id _) rows.length
      have hrl : (redI rows).2.2.length = rows.length := hinv.2.1
      have HRL := Lib.hid hrl
      clear hc hl hinv hrl
      go_enter Tryd.func46, Tryd.ntmps46
      go_wp2_with fail
      refine (check_any B _ rows _ h0).mono ?_
      rw [HC.out]
      rintro x wa ⟨rfl, rfl⟩
      go_wp2_with fail
      refine (ident_own rows.length n1 n2 _).mono ?_
      rintro x w3 ⟨rfl, hI, hb3⟩
      have hlI := hI.lt
      clear hck
      go_wp2_with fail
      refine (copied_any B _ rows n2 (fun i hi => by rw [HW.out i hi]; omega) _ (h0.chain hb3)).mono ?_
      rintro x w4 ⟨rfl, hM, hb4⟩
      have hI4 := hI.chain hb4
      have hB4 := Below.chain hb4 hb3
      have hlM := hM.lt
      have hsz := hb4.size
      clear hI hb3 hb4
      generalize w3.heap.size = gm at *
      have hne : gm ≠ w.heap.size := by omega
      go_upto_region 8 with fail
      have kb := Blk.new w4 #[.slice (some ⟨gm, 0, none⟩) rows.length rows.length, .slice (some ⟨w.heap.size, 0, none⟩) rows.length rows.length] 120
      have hM5 := hM.chain (Below.chainAlloc (Below.refl _ _) (.cells #[.slice (some ⟨gm, 0, none⟩) rows.length rows.length, .slice (some ⟨w.heap.size, 0, none⟩) rows.length rows.length] 120))
      have hI5 := hI4.chain (Below.chainAlloc (Below.refl _ _) (.cells #[.slice (some ⟨gm, 0, none⟩) rows.length rows.length, .slice (some ⟨w.heap.size, 0, none⟩) rows.length rows.length] 120))
      have hB5 := Below.chainAlloc hB4 (.cells #[.slice (some ⟨gm, 0, none⟩) rows.length rows.length, .slice (some ⟨w.heap.size, 0, none⟩) rows.length rows.length] 120)
      generalize w4.alloc (.cells #[.slice (some ⟨gm, 0, none⟩) rows.length rows.length, .slice (some ⟨w.heap.size, 0, none⟩) rows.length rows.length] 120) = w5 at *
      have hnb : w4.heap.size ∉ [gm, w.heap.size] := by simp; omega
      generalize w4.heap.size = bx at *
      have q0 : w5.cell? ⟨bx, 0, none⟩ = some (.slice (some ⟨gm, 0, none⟩) rows.length rows.length) := kb.facts.1 0
      have q1 : w5.cell? ⟨bx, 1, none⟩ = some (.slice (some ⟨w.heap.size, 0, none⟩) rows.length rows.length) := kb.facts.1 1
      go_wp2_with fail
      refine (reduce_any gm 0 rows.length w.heap.size 0 rows.length rows.length rows.length rows.length rows (idM rows.length) n1 n2 _ ⟨hM5, hI5, hne, idM_length _⟩ rfl (by have := HW.out; rw [← HL.out] at this; exact this) (wide_id _) n2 n2).mono ?_
      rintro x w6 ⟨rfl, hP, ho⟩
      have hB6 := Below.only hB5 ho (fun x hx => by simp at hx; omega)
      have q1' : w6.cell? ⟨bx, 1, none⟩ = some (.slice (some ⟨w.heap.size, 0, none⟩) rows.length rows.length) := (kb.only ho hnb).facts.1 1
      have HP : Hid (OwnP w6 gm 0 w.heap.size 0 (redI rows).2.1 (redI rows).2.2) := hP
      clear q0 q1 kb hP ho hM5 hI5 hB5 hM hI4 hB4
      rw [show redSo rows (idM rows.length) rows.length = redI rows from rfl]
      by_cases hs : (redI rows).1 < rows.length
      · have HS := Lib.hid (HSING.out w6 hs hB6)
        have hs' : ((redI rows).1 : Int) < (rows.length : Int) := by omega
        clear hs HP HOK HSING HRL
        generalize redI rows = R at *
        go_wp2_with fail
        go_ret2
        exact HS.out
      · have HS := Lib.hid (HOK.out w6 (.slice (some ⟨w.heap.size, 0, none⟩) rows.length rows.length) hs (HP.out.o.mat HRL.out.symm (Nat.le_refl _) (by unfold maxLen; omega)) hB6)
        have hs' : ¬ ((redI rows).1 : Int) < (rows.length : Int) := by omega
        clear hs HP HOK HSING HRL
        generalize redI rows = R at *
        go_wp2_with fail
        go_ret2
        exact HS.out
    · have heq : ((rows.length : Int) != (wid rows : Int)) = true := by simp; omega
      have HP := Lib.hid (InvPost.no (w := w) (invE_len hc hl) (by decide) (Below.refl _ _))
      clear hc hl
      go_enter Tryd.func46, Tryd.ntmps46
      go_wp2_with fail
      refine (check_any B _ rows _ h0).mono ?_
      rw [HC.out]
      rintro x wa ⟨rfl, rfl⟩
      go_wp2_with fail
      go_ret2
      exact HP.out
  · have hce : (chkM rows != 0) = true := by simpa using hc
    have HP := Lib.hid (InvPost.no (w := w) (invE_chk hc) hc (Below.refl _ _))
    clear hc hc0
    go_enter Tryd.func46, Tryd.ntmps46
    go_wp2_with fail
    refine (check_any B _ rows _ h0).mono ?_
    rintro x wa ⟨rfl, rfl⟩
    generalize chkM rows = z at *
    go_wp2_with fail
    go_ret2
    exact HP.out
end Go.Proofs.YtelpkddgcmikfaaDoor
