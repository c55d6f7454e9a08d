/-
  Tables of bytes: a place is cleared in all rows but one: plain, and the program's contract (chapter 3).
-/
import Derived.Test.YtibilabhokkhmaaMx7
namespace Go.Proofs.Ytibilabhokkhmaa
open Go.RowKit
set_option linter.unusedVariables false
set_option maxRecDepth 100000
set_option maxHeartbeats 2000000
def scR (c row : Nat) (R : List (List Nat)) : List (List Nat) := R.set row (scaleL c (R.getD row []))
def addR (R : List (List Nat)) (x i row : Nat) : List (List Nat) := R.set i (mulAddL (R.getD i []) x (R.getD row []))
def stepC (row place : Nat) (MO : List (List Nat) × List (List Nat)) (i : Nat) : List (List Nat) × List (List Nat) :=
  if i = row ∨ entM MO.1 i place = 0 then MO else (addR MO.1 (entM MO.1 i place) i row, addR MO.2 (entM MO.1 i place) i row)
def clearSo (row place : Nat) (M O : List (List Nat)) (m : Nat) : List (List Nat) × List (List Nat) :=
  (List.range m).foldl (stepC row place) (scR (gi (entM M row place)) row M, scR (gi (entM M row place)) row O)
def clearL (row place : Nat) (M O : List (List Nat)) : List (List Nat) × List (List Nat) := clearSo row place M O M.length
theorem clearSo_succ (row place : Nat) (M O : List (List Nat)) (m : Nat) : clearSo row place M O (m + 1) = stepC row place (clearSo row place M O m) m := by
  unfold clearSo
  rw [List.range_succ, List.foldl_append]
  rfl
/-- All rows are so long. -/
def Wide (R : List (List Nat)) (x : Nat) : Prop := ∀ i (h : i < R.length), R[i].length = x
theorem Wide.set {R : List (List Nat)} {x i : Nat} {r : List Nat} (h : Wide R x) (hr : r.length = x) : Wide (R.set i r) x := fun j hj => by
  by_cases e : i = j
  · subst e; simpa using hr
  · rw [List.getElem_set_ne e]; exact h j (by simpa using hj)
theorem scR_wide {R : List (List Nat)} {c row x : Nat} (h : Wide R x) (hr : row < R.length) : Wide (scR c row R) x := by
  unfold scR
  rw [getD_get R row _ hr]
  exact h.set (by rw [scaleL_length]; exact h row hr)
theorem addR_wide {R : List (List Nat)} {c i row x : Nat} (h : Wide R x) (hi : i < R.length) (hr : row < R.length) : Wide (addR R c i row) x := by
  unfold addR mulAddL
  rw [getD_get R row _ hr, getD_get R i _ hi]
  exact h.set (by rw [addL_length _ _ (by rw [scaleL_length, h i hi, h row hr]), h i hi])
theorem scR_length (c row : Nat) (R : List (List Nat)) : (scR c row R).length = R.length := by simp [scR]
theorem addR_length (R : List (List Nat)) (x i row : Nat) : (addR R x i row).length = R.length := by simp [addR]
theorem stepC_len (row place : Nat) (MO : List (List Nat) × List (List Nat)) (i : Nat) : (stepC row place MO i).1.length = MO.1.length ∧ (stepC row place MO i).2.length = MO.2.length := by
  unfold stepC
  split
  · exact ⟨rfl, rfl⟩
  · exact ⟨addR_length _ _ _ _, addR_length _ _ _ _⟩
theorem clearSo_len (row place : Nat) (M O : List (List Nat)) : ∀ m, (clearSo row place M O m).1.length = M.length ∧ (clearSo row place M O m).2.length = O.length
  | 0 => ⟨scR_length _ _ _, scR_length _ _ _⟩
  | m + 1 => by
    rw [clearSo_succ]
    have h1 := stepC_len row place (clearSo row place M O m) m
    have h2 := clearSo_len row place M O m
    exact ⟨h1.1.trans h2.1, h1.2.trans h2.2⟩
theorem clearSo_wide {row place : Nat} {M O : List (List Nat)} {x y : Nat} (hM : Wide M x) (hO : Wide O y) (hl : O.length = M.length) (hr : row < M.length) : ∀ m, m ≤ M.length → Wide (clearSo row place M O m).1 x ∧ Wide (clearSo row place M O m).2 y
  | 0, _ => ⟨scR_wide hM hr, scR_wide hO (by omega)⟩
  | m + 1, h => by
    rw [clearSo_succ]
    have h1 := clearSo_wide (place := place) hM hO hl hr m (by omega)
    have h2 := clearSo_len row place M O m
    unfold stepC
    split
    · exact h1
    · exact ⟨addR_wide h1.1 (by omega) (by omega), addR_wide h1.2 (by omega) (by omega)⟩
/-- No row but the one is looked at again: and that one stays. -/
theorem entM_lt {M : List (List Nat)} (h : ∀ i (h : i < M.length), ∀ x ∈ M[i], x < 256) (i j : Nat) : entM M i j < 256 := by
  unfold entM
  by_cases hi : i < M.length
  · rw [getD_get M i [] hi]
    by_cases hj : j < M[i].length
    · rw [getD_get _ j 0 hj]; exact h i hi _ (by simp)
    · simp [List.getD, List.getElem?_eq_none (show M[i].length ≤ j by omega)]
  · simp [List.getD, List.getElem?_eq_none (show M.length ≤ i by omega)]
theorem OwnM.bytes {w : World} {g off : Nat} {rows : List (List Nat)} (h : OwnM w g off rows) : ∀ i (h : i < rows.length), ∀ x ∈ rows[i], x < 256 := fun i hi => by
  obtain ⟨a, c, _, r⟩ := h.read i hi
  exact r.2
theorem clear_any (gm om cm go' oo co n wm wo : Nat) (M O : List (List Nat)) (row place : Nat) (hr : row < n) (hn : n ≤ 255) (w : World) (h : OwnP w gm om go' oo M O) (hl : M.length = n) (hM : Wide M wm) (hO : Wide O wo) (hp : place < wm) (hwm : wm ≤ 255) (hwo : wo ≤ 255) (hnz : entM M row place ≠ 0) :
    Calls Try.prog 67 #[.agg #[.slice (some ⟨gm, om, none⟩) n cm, .slice (some ⟨go', oo, none⟩) n co], .int .i64 row, .int .i64 place] w fun e w' => e = .returned (.tuple #[]) ∧ OwnP w' gm om go' oo (clearL row place M O).1 (clearL row place M O).2 ∧ Only [gm, go'] w w' := by
  have hm := h.m
  have ho := h.o
  have hlo : O.length = n := by have := h.len; omega
  have lm := hm.lt
  have lo := ho.lt
  have hne := h.ne
  have hr0 : (0 : Int) ≤ (row : Int) := by omega
  have hr1 : (row : Int) < (n : Int) := by omega
  have hp0 : (0 : Int) ≤ (place : Int) := by omega
  have hent := entM_get M row place (by omega) (by rw [hM row (by omega)]; exact hp)
  have hx256 : entM M row place < 256 := entM_lt hm.bytes row place
  have hxpos : 0 < entM M row place := by omega
  have kb := Blk.new w #[.slice (some ⟨gm, om, none⟩) n cm, .slice (some ⟨go', oo, none⟩) n co] 84
  have hB := Below.chainAlloc (Below.refl w.heap.size w) (.cells #[.slice (some ⟨gm, om, none⟩) n cm, .slice (some ⟨go', oo, none⟩) n co] 84)
  have q0 : (w.alloc (.cells #[.slice (some ⟨gm, om, none⟩) n cm, .slice (some ⟨go', oo, none⟩) n co] 84)).cell? ⟨w.heap.size, 0, none⟩ = some (.slice (some ⟨gm, om, none⟩) n cm) := kb.facts.1 0
  have q1 : (w.alloc (.cells #[.slice (some ⟨gm, om, none⟩) n cm, .slice (some ⟨go', oo, none⟩) n co] 84)).cell? ⟨w.heap.size, 1, none⟩ = some (.slice (some ⟨go', oo, none⟩) n co) := kb.facts.1 1
  have qx : w.heap.size < (w.alloc (.cells #[.slice (some ⟨gm, om, none⟩) n cm, .slice (some ⟨go', oo, none⟩) n co] 84)).heap.size := kb.lt
  have HM := Lib.hid hM
  have HO := Lib.hid hO
  clear hnz
  go_enter Try.func67, Try.ntmps67
  go_upto_region 1 with fail
  have hmW := hm.chain hB
  have hoW := ho.chain hB
  have hOW := Only.of_below (S := []) hB
  clear kb hB hm ho h
  generalize (w.alloc (.cells #[.slice (some ⟨gm, om, none⟩) n cm, .slice (some ⟨go', oo, none⟩) n co] 84)) = W at *
  generalize hbx : w.heap.size = bx at *
  have hmbx : gm ≠ bx := by omega
  have hobx : go' ≠ bx := by omega
  clear hbx
  obtain ⟨a1, c1, m1, r1⟩ := hmW.read row (by omega)
  obtain ⟨_, _, e, hc⟩ := r1.at
  cases e
  obtain ⟨gr, offr, rfl, hgr, hck⟩ := hc place (by rw [HM.out row (by omega)]; exact hp)
  have hlr := HM.out row (by omega)
  rw [← hent] at hck
  have HLR := Lib.hid hlr
  clear hc hent
  rw [hlr] at m1 r1
  have HINV := Lib.hid (fun wx => inv_any (entM M row place) hxpos hx256 wx)
  have hgc : gi (entM M row place) < 256 := expT_lt _
  obtain ⟨cc, hcc⟩ : ∃ cc, cc = gi (entM M row place) := ⟨_, rfl⟩
  rw [← hcc] at HINV hgc
  have HCC := Lib.hid hcc
  clear hlr hcc
  obtain ⟨xx, hxx⟩ : ∃ xx, xx = entM M row place := ⟨_, rfl⟩
  rw [← hxx] at HINV hck hx256 hxpos
  clear hxx
  go_wp2_with fail
  refine (HINV.out _).mono ?_
  rintro x w1 ⟨rfl, rfl⟩
  clear hck HINV
  go_upto_region 2 with fail
  obtain ⟨b1, d1, o1, s1⟩ := hoW.read row (by omega)
  have hls := HO.out row (by omega)
  rw [hls] at o1 s1
  have HLS := Lib.hid hls
  clear hls
  have fm1 := hmW.free (om + row)
  refine wp_region_T (fun w' => w'.cell? ⟨bx, 0, none⟩ = some (.slice (some ⟨gm, om, none⟩) n cm) ∧ w'.cell? ⟨bx, 1, none⟩ = some (.slice (some ⟨go', oo, none⟩) n co)) (fun w' => w'.cell? ⟨gm, om + row, none⟩ = some (.slice (some ⟨gr, offr, none⟩) wm c1) ∧ w'.cell? ⟨go', oo + row, none⟩ = some (.slice b1 wo d1)) (fun j => j == 21 || j == 23) (by kernel_rfl) ?_
  have hS0 : W.drew.cell? ⟨bx, 0, none⟩ = some (.slice (some ⟨gm, om, none⟩) n cm) ∧ W.drew.cell? ⟨bx, 1, none⟩ = some (.slice (some ⟨go', oo, none⟩) n co) := ⟨q0, q1⟩
  have hS1 : W.drew.cell? ⟨gm, om + row, none⟩ = some (.slice (some ⟨gr, offr, none⟩) wm c1) ∧ W.drew.cell? ⟨go', oo + row, none⟩ = some (.slice b1 wo d1) := ⟨m1, o1⟩
  have hbd := (Below.refl W.heap.size W).drew
  have hmD := hmW.chain hbd
  have hoD := hoW.chain hbd
  have r1D := r1.chain hbd
  have s1D := s1.chain hbd
  have qxD : bx < W.drew.heap.size := qx
  have hOD := hOW.drew
  clear hbd hmW hoW r1 s1 qx hOW q0 q1 m1 o1 fm1
  generalize W.drew = Wd at *
  have lmW := hmD.lt
  have loW := hoD.lt
  refine wpAnyT_take (i := 0) (v := ?_) rfl (by kernel_rfl) (by kernel_rfl) (by kernel_rfl) (fun _ _ _ h => h) (Or.inl ⟨by rfl, ?_⟩) hS0 ?_
  rotate_left
  · (intro wz hSw; (try dsimp only at hSw); go_simp; (try with_reducible rfl))
  simp only [Act.put, List.setIfInBounds_toArray]
  refine wpAnyT_take (i := 1) (v := ?_) rfl (by kernel_rfl) (by kernel_rfl) (by kernel_rfl) (fun _ _ _ h => h) (Or.inl ⟨by rfl, ?_⟩) hS0 ?_
  rotate_left
  · (intro wz hSw; (try dsimp only at hSw); go_simp; (try with_reducible rfl))
  simp only [Act.put]
  refine wpAnyT_take (i := 2) (v := ?_) rfl (by kernel_rfl) (by kernel_rfl) (by kernel_rfl) (fun _ _ _ h => h) (Or.inl ⟨by rfl, ?_⟩) hS0 ?_
  rotate_left
  · (intro wz hSw; (try dsimp only at hSw); go_simp; (try with_reducible rfl))
  simp only [Act.put]
  refine wpAnyT_take (i := 3) (v := ?_) rfl (by kernel_rfl) (by kernel_rfl) (by kernel_rfl) (fun _ _ _ h => h) (Or.inl ⟨by rfl, ?_⟩) hS0 ?_
  rotate_left
  · (intro wz hSw; (try dsimp only at hSw); go_simp; (try with_reducible rfl))
  simp only [Act.put]
  refine wpAnyT_take (i := 4) (v := ?_) rfl (by kernel_rfl) (by kernel_rfl) (by kernel_rfl) (fun _ _ _ h => h) (Or.inl ⟨by rfl, ?_⟩) hS0 ?_
  rotate_left
  · (intro wz hSw; (try dsimp only at hSw); go_simp; (try with_reducible rfl))
  simp only [Act.put]
  refine wpAnyT_take (i := 5) (v := ?_) rfl (by kernel_rfl) (by kernel_rfl) (by kernel_rfl) (fun _ _ _ h => h) (Or.inl ⟨by rfl, ?_⟩) hS0 ?_
  rotate_left
  · (intro wz hSw; (try dsimp only at hSw); go_simp; (try with_reducible rfl))
  simp only [Act.put]
  refine wpAnyT_take (i := 6) (v := ?_) rfl (by kernel_rfl) (by kernel_rfl) (by kernel_rfl) (fun _ _ _ h => h) (Or.inl ⟨by rfl, ?_⟩) hS0 ?_
  rotate_left
  · (intro wz hSw; (try dsimp only at hSw); go_simp; (try with_reducible rfl))
  simp only [Act.put]
  refine wpAnyT_take (i := 7) (v := ?_) rfl (by kernel_rfl) (by kernel_rfl) (by kernel_rfl) (fun _ _ _ h => h) (Or.inl ⟨by rfl, ?_⟩) hS0 ?_
  rotate_left
  · (intro wz hSw; (try dsimp only at hSw); go_simp; (try with_reducible rfl))
  simp only [Act.put]
  refine wpAnyT_take (i := 8) (v := ?_) rfl (by kernel_rfl) (by kernel_rfl) (by kernel_rfl) (fun _ _ _ h => h) (Or.inl ⟨by rfl, ?_⟩) hS0 ?_
  rotate_left
  · (intro wz hSw; (try dsimp only at hSw); go_simp; (try with_reducible rfl))
  simp only [Act.put]
  refine wpAnyT_take (i := 9) (v := ?_) rfl (by kernel_rfl) (by kernel_rfl) (by kernel_rfl) (fun _ _ _ h => h) (Or.inl ⟨by rfl, ?_⟩) hS0 ?_
  rotate_left
  · (intro wz hSw; (try dsimp only at hSw); go_simp; (try with_reducible rfl))
  simp only [Act.put]
  refine wpAnyT_take (i := 10) (v := ?_) rfl (by kernel_rfl) (by kernel_rfl) (by kernel_rfl) (fun _ _ _ h => h) (Or.inl ⟨by rfl, ?_⟩) hS0 ?_
  rotate_left
  · (intro wz hSw; (try dsimp only at hSw); go_simp; (try with_reducible rfl))
  simp only [Act.put]
  refine wpAnyT_takeS (i := 11) (v := ?_) rfl (by kernel_rfl) (by kernel_rfl) (by kernel_rfl) (by kernel_rfl) (fun _ _ _ h => h) (Or.inl ⟨by rfl, ?_⟩) hS0 hS1 ?_
  rotate_left
  · (intro wz hSw; (try dsimp only at hSw); go_simp; (try with_reducible rfl))
  simp only [Act.put]
  refine wpAnyT_take (i := 13) (v := ?_) rfl (by kernel_rfl) (by kernel_rfl) (by kernel_rfl) (fun _ _ _ h => h) (Or.inl ⟨by rfl, ?_⟩) hS0 ?_
  rotate_left
  · (intro wz hSw; (try dsimp only at hSw); go_simp; (try with_reducible rfl))
  simp only [Act.put]
  refine wpAnyT_take (i := 14) (v := ?_) rfl (by kernel_rfl) (by kernel_rfl) (by kernel_rfl) (fun _ _ _ h => h) (Or.inl ⟨by rfl, ?_⟩) hS0 ?_
  rotate_left
  · (intro wz hSw; (try dsimp only at hSw); go_simp; (try with_reducible rfl))
  simp only [Act.put]
  refine wpAnyT_take (i := 15) (v := ?_) rfl (by kernel_rfl) (by kernel_rfl) (by kernel_rfl) (fun _ _ _ h => h) (Or.inl ⟨by rfl, ?_⟩) hS0 ?_
  rotate_left
  · (intro wz hSw; (try dsimp only at hSw); go_simp; (try with_reducible rfl))
  simp only [Act.put]
  refine wpAnyT_take (i := 16) (v := ?_) rfl (by kernel_rfl) (by kernel_rfl) (by kernel_rfl) (fun _ _ _ h => h) (Or.inl ⟨by rfl, ?_⟩) hS0 ?_
  rotate_left
  · (intro wz hSw; (try dsimp only at hSw); go_simp; (try with_reducible rfl))
  simp only [Act.put]
  refine wpAnyT_take (i := 17) (v := ?_) rfl (by kernel_rfl) (by kernel_rfl) (by kernel_rfl) (fun _ _ _ h => h) (Or.inl ⟨by rfl, ?_⟩) hS0 ?_
  rotate_left
  · (intro wz hSw; (try dsimp only at hSw); go_simp; (try with_reducible rfl))
  simp only [Act.put]
  refine wpAnyT_takeS (i := 18) (v := ?_) rfl (by kernel_rfl) (by kernel_rfl) (by kernel_rfl) (by kernel_rfl) (fun _ _ _ h => h) (Or.inl ⟨by rfl, ?_⟩) hS0 hS1 ?_
  rotate_left
  · (intro wz hSw; (try dsimp only at hSw); go_simp; (try with_reducible rfl))
  simp only [Act.put]
  refine wpAnyT_one (i := 12) (by kernel_rfl) rfl (fun K hK => ?_)
  go_simp
  refine (scale_any cc hgc 0 _ M[row] (by rw [HLR.out]; omega) _ r1D).mono ?_
  rw [HLR.out]
  rintro x w2 ⟨rfl, hb2, hB2⟩
  have hS02 : w2.cell? ⟨bx, 0, none⟩ = some (.slice (some ⟨gm, om, none⟩) n cm) ∧ w2.cell? ⟨bx, 1, none⟩ = some (.slice (some ⟨go', oo, none⟩) n co) := ⟨(hB2.cell (p := ⟨bx, 0, none⟩) qxD).trans hS0.1, (hB2.cell (p := ⟨bx, 1, none⟩) qxD).trans hS0.2⟩
  refine hK.out _ _ hS02 (fun _ h => ⟨(hB2.cell (p := ⟨gm, om + row, none⟩) lmW).trans h.1, (hB2.cell (p := ⟨go', oo + row, none⟩) loW).trans h.2⟩) ?_
  clear hK K
  have hm2 := hmD.chain hB2
  have ho2 := hoD.chain hB2
  have s12 := s1D.chain hB2
  have t1 := hb2.row (B := 0) (cap := wm) (by rw [scaleL_length, HLR.out]; exact Nat.le_refl _) (by unfold maxLen; omega)
  rw [scaleL_length, HLR.out] at t1
  have hO2 := hOD.trans (Only.of_below (S := []) hB2)
  have qx2 : bx < w2.heap.size := Nat.lt_of_lt_of_le qxD hB2.size
  clear hS0 hS1 hmD hoD r1D s1D hb2 qxD hOD lmW loW
  generalize Wd.heap.size = g1 at *
  have lm2 := hm2.lt
  have lo2 := ho2.lt
  refine wpAnyT_one (i := 19) (by kernel_rfl) rfl (fun K hK => ?_)
  go_simp
  refine (scale_any cc hgc 0 _ O[row] (by rw [HLS.out]; omega) _ s12).mono ?_
  rw [HLS.out]
  rintro x w3 ⟨rfl, hb3, hB3⟩
  have hS03 : w3.cell? ⟨bx, 0, none⟩ = some (.slice (some ⟨gm, om, none⟩) n cm) ∧ w3.cell? ⟨bx, 1, none⟩ = some (.slice (some ⟨go', oo, none⟩) n co) := ⟨(hB3.cell (p := ⟨bx, 0, none⟩) qx2).trans hS02.1, (hB3.cell (p := ⟨bx, 1, none⟩) qx2).trans hS02.2⟩
  refine hK.out _ _ hS03 (fun _ h => ⟨(hB3.cell (p := ⟨gm, om + row, none⟩) lm2).trans h.1, (hB3.cell (p := ⟨go', oo + row, none⟩) lo2).trans h.2⟩) ?_
  clear hK K
  have hm3 := hm2.chain hB3
  have ho3 := ho2.chain hB3
  have t13 := t1.chain hB3
  have t2 := hb3.row (B := 0) (cap := wo) (by rw [scaleL_length, HLS.out]; exact Nat.le_refl _) (by unfold maxLen; omega)
  rw [scaleL_length, HLS.out] at t2
  have hO3 := hO2.trans (Only.of_below (S := []) hB3)
  have qx3 : bx < w3.heap.size := Nat.lt_of_lt_of_le qx2 hB3.size
  clear hS02 hm2 ho2 s12 hb3 qx2 hO2 lm2 lo2 t1 hB2
  generalize w2.heap.size = g2 at *
  clear hB3
  obtain ⟨az, cz, hcz, -⟩ := hm3.read row (by omega)
  have hfz := hm3.free (om + row)
  refine wpAnyT_take (i := 20) (v := ?_) rfl (by kernel_rfl) (by kernel_rfl) (by kernel_rfl) (fun _ _ _ h => h) (Or.inl ⟨by rfl, ?_⟩) hS03 ?_
  rotate_left
  · (intro wz hSw; (try dsimp only at hSw); go_simp; (try with_reducible rfl))
  simp only [Act.put]
  refine wpAnyT_one (i := 21) (by kernel_rfl) rfl (fun K hK => ?_)
  go_simp
  have hm4 := hm3.store row (by omega) _ _ _ _ t13
  have ho4 := ho3.other ⟨gm, om + row, none⟩ (.slice (some ⟨g1, 0, none⟩) wm wm) (Ne.symm hne) hm3.apart
  have t24 := t2.store ⟨gm, om + row, none⟩ (.slice (some ⟨g1, 0, none⟩) wm wm) hm3.apart
  have hO4 := (hO3.mono (S' := [gm]) (by simp)).setCell ⟨gm, om + row, none⟩ (.slice (some ⟨g1, 0, none⟩) wm wm) (.inl (by simp))
  have hS04 : (w3.setCell ⟨gm, om + row, none⟩ (.slice (some ⟨g1, 0, none⟩) wm wm)).cell? ⟨bx, 0, none⟩ = some (.slice (some ⟨gm, om, none⟩) n cm) ∧ (w3.setCell ⟨gm, om + row, none⟩ (.slice (some ⟨g1, 0, none⟩) wm wm)).cell? ⟨bx, 1, none⟩ = some (.slice (some ⟨go', oo, none⟩) n co) := ⟨(World.cell?_setCell_far _ _ _ _ (by simp; omega)).trans hS03.1, (World.cell?_setCell_far _ _ _ _ (by simp; omega)).trans hS03.2⟩
  generalize (w3.setCell ⟨gm, om + row, none⟩ (.slice (some ⟨g1, 0, none⟩) wm wm)) = w4 at *
  refine hK.out _ _ hS04 (fun h => absurd h (by decide)) ?_
  clear hK K hS03 hm3 ho3 t13 t2 hO3 hcz hfz
  obtain ⟨az, cz, hcz, -⟩ := ho4.read row (by omega)
  have hfz := ho4.free (oo + row)
  refine wpAnyT_take (i := 22) (v := ?_) rfl (by kernel_rfl) (by kernel_rfl) (by kernel_rfl) (fun _ _ _ h => h) (Or.inl ⟨by rfl, ?_⟩) hS04 ?_
  rotate_left
  · (intro wz hSw; (try dsimp only at hSw); go_simp; (try with_reducible rfl))
  simp only [Act.put]
  refine wpAnyT_one (i := 23) (by kernel_rfl) rfl (fun K hK => ?_)
  go_simp
  have ho5 := ho4.store row (by omega) _ _ _ _ t24
  have hm5 := hm4.other ⟨go', oo + row, none⟩ (.slice (some ⟨g2, 0, none⟩) wo wo) hne ho4.apart
  have hO5 := (hO4.mono (S' := [gm, go']) (by simp)).setCell ⟨go', oo + row, none⟩ (.slice (some ⟨g2, 0, none⟩) wo wo) (.inl (by simp))
  have hS05 : (w4.setCell ⟨go', oo + row, none⟩ (.slice (some ⟨g2, 0, none⟩) wo wo)).cell? ⟨bx, 0, none⟩ = some (.slice (some ⟨gm, om, none⟩) n cm) ∧ (w4.setCell ⟨go', oo + row, none⟩ (.slice (some ⟨g2, 0, none⟩) wo wo)).cell? ⟨bx, 1, none⟩ = some (.slice (some ⟨go', oo, none⟩) n co) := ⟨(World.cell?_setCell_far _ _ _ _ (by simp; omega)).trans hS04.1, (World.cell?_setCell_far _ _ _ _ (by simp; omega)).trans hS04.2⟩
  generalize (w4.setCell ⟨go', oo + row, none⟩ (.slice (some ⟨g2, 0, none⟩) wo wo)) = w5 at *
  refine hK.out _ _ hS05 (fun h => absurd h (by decide)) ?_
  clear hK K hS04 hm4 ho4 t24 hO4 hcz hfz
  refine wpAnyT_done (by kernel_rfl) ?_ _
  obtain ⟨q0, q1⟩ := hS05
  have hs0 : M.set row (scaleL cc M[row]) = (clearSo row place M O 0).1 ∧ O.set row (scaleL cc O[row]) = (clearSo row place M O 0).2 := by
    show _ = scR (gi (entM M row place)) row M ∧ _ = scR (gi (entM M row place)) row O
    unfold scR
    rw [getD_get M row _ (by omega), getD_get O row _ (by omega), ← HCC.out]
    exact ⟨rfl, rfl⟩
  rw [hs0.1] at hm5
  rw [hs0.2] at ho5
  clear hs0 hxpos hx256
  go_wp2_with fail
  go_loopw [8, 9, 47] (fun _ _ i wr => ∃ m : Nat, m ≤ n ∧ i = .int .i64 m ∧ OwnM wr gm om (clearSo row place M O m).1 ∧ OwnM wr go' oo (clearSo row place M O m).2 ∧ Only [gm, go'] w wr ∧ wr.cell? ⟨bx, 0, none⟩ = some (.slice (some ⟨gm, om, none⟩) n cm) ∧ wr.cell? ⟨bx, 1, none⟩ = some (.slice (some ⟨go', oo, none⟩) n co)) (fun _ _ i _ => n - (intOf i).toNat)
  case atStart => exact ⟨0, by omega, rfl, hm5, ho5, hO5, q0, q1⟩
  case round =>
    clear hm5 ho5 hO5 q0 q1
    obtain ⟨m, hmn, rfl, hmr, hor, hOR, q0, q1⟩ := hrel
    by_cases hlt : m < n
    · have hln := clearSo_len row place M O m
      have hwd := clearSo_wide (row := row) (place := place) HM.out HO.out (by omega) (by omega) m (by omega)
      have HSTEP : Hid (clearSo row place M O (m + 1) = stepC row place ((clearSo row place M O m).1, (clearSo row place M O m).2) m) := clearSo_succ row place M O m
      obtain ⟨hln1, hln2⟩ := hln
      obtain ⟨hwd1, hwd2⟩ := hwd
      obtain ⟨R1, hR1⟩ : ∃ R, R = (clearSo row place M O m).1 := ⟨_, rfl⟩
      obtain ⟨R2, hR2⟩ : ∃ R, R = (clearSo row place M O m).2 := ⟨_, rfl⟩
      rw [← hR1] at hmr hln1 hwd1 HSTEP
      rw [← hR2] at hor hln2 hwd2 HSTEP
      clear hR1 hR2
      have HW1 := Lib.hid hwd1
      have HW2 := Lib.hid hwd2
      obtain ⟨ax, cx, mx, rx⟩ := hmr.read m (by omega)
      obtain ⟨_, _, e, hc⟩ := rx.at
      cases e
      have hpl : place < R1[m].length := by rw [HW1.out m (by omega)]; exact hp
      obtain ⟨gx, offx, rfl, hgx, hckx⟩ := hc place hpl
      rw [← entM_get R1 m place (by omega) hpl] at hckx
      rw [HW1.out m (by omega)] at mx
      have hx256 := entM_lt hmr.bytes m place
      obtain ⟨xx, hxx⟩ : ∃ xx, xx = entM R1 m place := ⟨_, rfl⟩
      rw [← hxx] at hckx hx256
      have HXX := Lib.hid hxx
      clear hc rx hpl hxx
      have hmm0 : (0 : Int) ≤ (m : Int) := by omega
      have hmm1 : (m : Int) < (n : Int) := by omega
      by_cases hmr' : m = row
      · have HS : Hid (clearSo row place M O (m + 1) = (R1, R2)) := by
          unfold Hid; rw [HSTEP.out]; unfold stepC; rw [if_pos (.inl hmr')]
        have heq : ((m : Int) != (row : Int)) = false := by simp [hmr']
        clear hmr' HSTEP hwd1 hwd2
        go_wp2_with fail
        go_roundw
        case rel => exact ⟨m + 1, by omega, by go_num, by rw [HS.out]; exact hmr, by rw [HS.out]; exact hor, hOR, q0, q1⟩
        case measure => simp [intOf]; omega
      · have heq : ((m : Int) != (row : Int)) = true := by simp; omega
        by_cases hx0 : xx = 0
        · have HS : Hid (clearSo row place M O (m + 1) = (R1, R2)) := by
            unfold Hid; rw [HSTEP.out]; unfold stepC; rw [if_pos (.inr (by rw [← hx0]; exact HXX.out.symm))]
          subst hx0
          clear HSTEP hmr' hwd1 hwd2
          go_wp2_with fail
          go_roundw
          case rel => exact ⟨m + 1, by omega, by go_num, by rw [HS.out]; exact hmr, by rw [HS.out]; exact hor, hOR, q0, q1⟩
          case measure => simp [intOf]; omega
        · have HS : Hid (clearSo row place M O (m + 1) = (addR R1 xx m row, addR R2 xx m row)) := by
            unfold Hid; rw [HSTEP.out]; unfold stepC; rw [if_neg (by rintro (h | h); exact hmr' h; exact hx0 (HXX.out.trans h)), ← HXX.out]
          have hxne : ((xx : Int) != 0) = true := by simp; omega
          have hset : R1.set m (mulAddL R1[m] xx R1[row]) = addR R1 xx m row ∧ R2.set m (mulAddL R2[m] xx R2[row]) = addR R2 xx m row := by
            unfold addR
            rw [getD_get R1 m _ (by omega), getD_get R1 row _ (by omega), getD_get R2 m _ (by omega), getD_get R2 row _ (by omega)]
            exact ⟨rfl, rfl⟩
          have HSET := Lib.hid hset
          clear HSTEP hmr' hx0 hset
          go_wp2_with fail
          clear mx hckx hgx hwd1 hwd2
          obtain ⟨e1a, f1a, u1, v1⟩ := hmr.read m (by omega)
          obtain ⟨e2a, f2a, u2, v2⟩ := hmr.read row (by omega)
          rw [HW1.out m (by omega)] at u1 v1
          rw [HW1.out row (by omega)] at u2 v2
          refine wp_region_T (fun w' => w'.cell? ⟨bx, 0, none⟩ = some (.slice (some ⟨gm, om, none⟩) n cm) ∧ w'.cell? ⟨bx, 1, none⟩ = some (.slice (some ⟨go', oo, none⟩) n co)) (fun w' => w'.cell? ⟨gm, om + m, none⟩ = some (.slice e1a wm f1a) ∧ w'.cell? ⟨gm, om + row, none⟩ = some (.slice e2a wm f2a)) (fun j => j == 19) (by kernel_rfl) ?_
          have hS0 : wr.drew.cell? ⟨bx, 0, none⟩ = some (.slice (some ⟨gm, om, none⟩) n cm) ∧ wr.drew.cell? ⟨bx, 1, none⟩ = some (.slice (some ⟨go', oo, none⟩) n co) := ⟨q0, q1⟩
          have hS1 : wr.drew.cell? ⟨gm, om + m, none⟩ = some (.slice e1a wm f1a) ∧ wr.drew.cell? ⟨gm, om + row, none⟩ = some (.slice e2a wm f2a) := ⟨u1, u2⟩
          have hbd := (Below.refl wr.heap.size wr).drew
          replace hmr := hmr.chain hbd
          replace hor := hor.chain hbd
          replace v1 := v1.chain hbd
          replace v2 := v2.chain hbd
          have qx : bx < wr.drew.heap.size := World.block_lt_of_cell? _ _ q0
          replace hOR := hOR.drew
          clear hbd q0 q1 u1 u2
          generalize wr.drew = wrd at *
          have l1 := hmr.lt
          have l2 := hor.lt
          refine wpAnyT_take (i := 0) (v := ?_) rfl (by kernel_rfl) (by kernel_rfl) (by kernel_rfl) (fun _ _ _ h => h) (Or.inl ⟨by rfl, ?_⟩) hS0 ?_
          rotate_left
          · (intro wz hSw; (try dsimp only at hSw); go_simp; (try with_reducible rfl))
          simp only [Act.put, List.setIfInBounds_toArray]
          refine wpAnyT_take (i := 1) (v := ?_) rfl (by kernel_rfl) (by kernel_rfl) (by kernel_rfl) (fun _ _ _ h => h) (Or.inl ⟨by rfl, ?_⟩) hS0 ?_
          rotate_left
          · (intro wz hSw; (try dsimp only at hSw); go_simp; (try with_reducible rfl))
          simp only [Act.put]
          refine wpAnyT_take (i := 2) (v := ?_) rfl (by kernel_rfl) (by kernel_rfl) (by kernel_rfl) (fun _ _ _ h => h) (Or.inl ⟨by rfl, ?_⟩) hS0 ?_
          rotate_left
          · (intro wz hSw; (try dsimp only at hSw); go_simp; (try with_reducible rfl))
          simp only [Act.put]
          refine wpAnyT_take (i := 3) (v := ?_) rfl (by kernel_rfl) (by kernel_rfl) (by kernel_rfl) (fun _ _ _ h => h) (Or.inl ⟨by rfl, ?_⟩) hS0 ?_
          rotate_left
          · (intro wz hSw; (try dsimp only at hSw); go_simp; (try with_reducible rfl))
          simp only [Act.put]
          refine wpAnyT_take (i := 4) (v := ?_) rfl (by kernel_rfl) (by kernel_rfl) (by kernel_rfl) (fun _ _ _ h => h) (Or.inl ⟨by rfl, ?_⟩) hS0 ?_
          rotate_left
          · (intro wz hSw; (try dsimp only at hSw); go_simp; (try with_reducible rfl))
          simp only [Act.put]
          refine wpAnyT_take (i := 5) (v := ?_) rfl (by kernel_rfl) (by kernel_rfl) (by kernel_rfl) (fun _ _ _ h => h) (Or.inl ⟨by rfl, ?_⟩) hS0 ?_
          rotate_left
          · (intro wz hSw; (try dsimp only at hSw); go_simp; (try with_reducible rfl))
          simp only [Act.put]
          refine wpAnyT_take (i := 6) (v := ?_) rfl (by kernel_rfl) (by kernel_rfl) (by kernel_rfl) (fun _ _ _ h => h) (Or.inl ⟨by rfl, ?_⟩) hS0 ?_
          rotate_left
          · (intro wz hSw; (try dsimp only at hSw); go_simp; (try with_reducible rfl))
          simp only [Act.put]
          refine wpAnyT_takeS (i := 7) (v := ?_) rfl (by kernel_rfl) (by kernel_rfl) (by kernel_rfl) (by kernel_rfl) (fun _ _ _ h => h) (Or.inl ⟨by rfl, ?_⟩) hS0 hS1 ?_
          rotate_left
          · (intro wz hSw; (try dsimp only at hSw); go_simp; (try with_reducible rfl))
          simp only [Act.put]
          refine wpAnyT_take (i := 8) (v := ?_) rfl (by kernel_rfl) (by kernel_rfl) (by kernel_rfl) (fun _ _ _ h => h) (Or.inl ⟨by rfl, ?_⟩) hS0 ?_
          rotate_left
          · (intro wz hSw; (try dsimp only at hSw); go_simp; (try with_reducible rfl))
          simp only [Act.put]
          refine wpAnyT_take (i := 9) (v := ?_) rfl (by kernel_rfl) (by kernel_rfl) (by kernel_rfl) (fun _ _ _ h => h) (Or.inl ⟨by rfl, ?_⟩) hS0 ?_
          rotate_left
          · (intro wz hSw; (try dsimp only at hSw); go_simp; (try with_reducible rfl))
          simp only [Act.put]
          refine wpAnyT_take (i := 10) (v := ?_) rfl (by kernel_rfl) (by kernel_rfl) (by kernel_rfl) (fun _ _ _ h => h) (Or.inl ⟨by rfl, ?_⟩) hS0 ?_
          rotate_left
          · (intro wz hSw; (try dsimp only at hSw); go_simp; (try with_reducible rfl))
          simp only [Act.put]
          refine wpAnyT_take (i := 11) (v := ?_) rfl (by kernel_rfl) (by kernel_rfl) (by kernel_rfl) (fun _ _ _ h => h) (Or.inl ⟨by rfl, ?_⟩) hS0 ?_
          rotate_left
          · (intro wz hSw; (try dsimp only at hSw); go_simp; (try with_reducible rfl))
          simp only [Act.put]
          refine wpAnyT_take (i := 12) (v := ?_) rfl (by kernel_rfl) (by kernel_rfl) (by kernel_rfl) (fun _ _ _ h => h) (Or.inl ⟨by rfl, ?_⟩) hS0 ?_
          rotate_left
          · (intro wz hSw; (try dsimp only at hSw); go_simp; (try with_reducible rfl))
          simp only [Act.put]
          refine wpAnyT_takeS (i := 13) (v := ?_) rfl (by kernel_rfl) (by kernel_rfl) (by kernel_rfl) (by kernel_rfl) (fun _ _ _ h => h) (Or.inl ⟨by rfl, ?_⟩) hS0 hS1 ?_
          rotate_left
          · (intro wz hSw; (try dsimp only at hSw); go_simp; (try with_reducible rfl))
          simp only [Act.put]
          refine wpAnyT_one (i := 14) (by kernel_rfl) rfl (fun K hK => ?_)
          go_simp
          refine (muladd_any 0 _ _ R1[m] R1[row] xx hx256 (by rw [HW1.out row (by omega)]; omega) _ v1 v2).mono ?_
          rintro x w2 ⟨u, rfl, hr2, hB2⟩
          have hle : R1[m].length = (scaleL xx R1[row]).length := by rw [scaleL_length, HW1.out m (by omega), HW1.out row (by omega)]
          have hE : lenE R1[m] (scaleL xx R1[row]) = 0 := by unfold lenE; rw [if_pos hle]
          have hV : addV R1[m] (scaleL xx R1[row]) = mulAddL R1[m] xx R1[row] := by unfold addV; rw [if_pos hle]; rfl
          rw [hE]
          rw [hV] at hr2
          obtain ⟨au, cu, rfl, -⟩ := hr2.at
          have hS02 : w2.cell? ⟨bx, 0, none⟩ = some (.slice (some ⟨gm, om, none⟩) n cm) ∧ w2.cell? ⟨bx, 1, none⟩ = some (.slice (some ⟨go', oo, none⟩) n co) := ⟨(hB2.cell (p := ⟨bx, 0, none⟩) qx).trans hS0.1, (hB2.cell (p := ⟨bx, 1, none⟩) qx).trans hS0.2⟩
          refine hK.out _ _ hS02 (fun _ h => ⟨(hB2.cell (p := ⟨gm, om + m, none⟩) l1).trans h.1, (hB2.cell (p := ⟨gm, om + row, none⟩) l1).trans h.2⟩) ?_
          clear hK K hS1 hE hV hle
          replace hmr := hmr.chain hB2
          replace hor := hor.chain hB2
          replace hOR := hOR.trans ((Only.of_below (S := []) hB2).mono (S' := [gm, go']) (by simp))
          clear hS0 v1 v2 l1 l2 qx hB2
          generalize (mulAddL R1[m] xx R1[row]).length = lua at *
          obtain ⟨az, cz, hcz, -⟩ := hmr.read m (by omega)
          have hfz := hmr.free (om + m)
          refine wpAnyT_take (i := 15) (v := ?_) rfl (by kernel_rfl) (by kernel_rfl) (by kernel_rfl) (fun _ _ _ h => h) (Or.inl ⟨by rfl, ?_⟩) hS02 ?_
          rotate_left
          · (intro wz hSw; (try dsimp only at hSw); go_simp; (try with_reducible rfl))
          simp only [Act.put]
          refine wpAnyT_take (i := 16) (v := ?_) rfl (by kernel_rfl) (by kernel_rfl) (by kernel_rfl) (fun _ _ _ h => h) (Or.inl ⟨by rfl, ?_⟩) hS02 ?_
          rotate_left
          · (intro wz hSw; (try dsimp only at hSw); go_simp; (try with_reducible rfl))
          simp only [Act.put]
          refine wpAnyT_take (i := 17) (v := ?_) rfl (by kernel_rfl) (by kernel_rfl) (by kernel_rfl) (fun _ _ _ h => h) (Or.inl ⟨by rfl, ?_⟩) hS02 ?_
          rotate_left
          · (intro wz hSw; (try dsimp only at hSw); go_simp; (try with_reducible rfl))
          simp only [Act.put]
          refine wpAnyT_take (i := 18) (v := ?_) rfl (by kernel_rfl) (by kernel_rfl) (by kernel_rfl) (fun _ _ _ h => h) (Or.inl ⟨by rfl, ?_⟩) hS02 ?_
          rotate_left
          · (intro wz hSw; (try dsimp only at hSw); go_simp; (try with_reducible rfl))
          simp only [Act.put]
          refine wpAnyT_one (i := 19) (by kernel_rfl) rfl (fun K hK => ?_)
          go_simp
          have hmr3 := hmr.store m (by omega) _ _ _ _ hr2
          have hor3 := hor.other ⟨gm, om + m, none⟩ (.slice au lua cu) (Ne.symm hne) hmr.apart
          replace hOR := hOR.setCell ⟨gm, om + m, none⟩ (.slice au lua cu) (.inl (by simp))
          have hS03 : (w2.setCell ⟨gm, om + m, none⟩ (.slice au lua cu)).cell? ⟨bx, 0, none⟩ = some (.slice (some ⟨gm, om, none⟩) n cm) ∧ (w2.setCell ⟨gm, om + m, none⟩ (.slice au lua cu)).cell? ⟨bx, 1, none⟩ = some (.slice (some ⟨go', oo, none⟩) n co) := ⟨(World.cell?_setCell_far _ _ _ _ (by simp; omega)).trans hS02.1, (World.cell?_setCell_far _ _ _ _ (by simp; omega)).trans hS02.2⟩
          generalize (w2.setCell ⟨gm, om + m, none⟩ (.slice au lua cu)) = w3 at *
          refine hK.out _ _ hS03 (fun h => absurd h (by decide)) ?_
          clear hK K hS02 hmr hor hcz hfz hr2
          refine wpAnyT_done (by kernel_rfl) ?_ _
          obtain ⟨q0, q1⟩ := hS03
          go_wp2_with fail
          obtain ⟨e1b, f1b, u1, v1⟩ := hor3.read m (by omega)
          obtain ⟨e2b, f2b, u2, v2⟩ := hor3.read row (by omega)
          rw [HW2.out m (by omega)] at u1 v1
          rw [HW2.out row (by omega)] at u2 v2
          refine wp_region_T (fun w' => w'.cell? ⟨bx, 0, none⟩ = some (.slice (some ⟨gm, om, none⟩) n cm) ∧ w'.cell? ⟨bx, 1, none⟩ = some (.slice (some ⟨go', oo, none⟩) n co)) (fun w' => w'.cell? ⟨go', oo + m, none⟩ = some (.slice e1b wo f1b) ∧ w'.cell? ⟨go', oo + row, none⟩ = some (.slice e2b wo f2b)) (fun j => j == 19) (by kernel_rfl) ?_
          have hS0 : w3.drew.cell? ⟨bx, 0, none⟩ = some (.slice (some ⟨gm, om, none⟩) n cm) ∧ w3.drew.cell? ⟨bx, 1, none⟩ = some (.slice (some ⟨go', oo, none⟩) n co) := ⟨q0, q1⟩
          have hS1 : w3.drew.cell? ⟨go', oo + m, none⟩ = some (.slice e1b wo f1b) ∧ w3.drew.cell? ⟨go', oo + row, none⟩ = some (.slice e2b wo f2b) := ⟨u1, u2⟩
          have hbd := (Below.refl w3.heap.size w3).drew
          replace hor3 := hor3.chain hbd
          replace hmr3 := hmr3.chain hbd
          replace v1 := v1.chain hbd
          replace v2 := v2.chain hbd
          have qx : bx < w3.drew.heap.size := World.block_lt_of_cell? _ _ q0
          replace hOR := hOR.drew
          clear hbd q0 q1 u1 u2
          generalize w3.drew = w3d at *
          have l1 := hor3.lt
          have l2 := hmr3.lt
          refine wpAnyT_take (i := 0) (v := ?_) rfl (by kernel_rfl) (by kernel_rfl) (by kernel_rfl) (fun _ _ _ h => h) (Or.inl ⟨by rfl, ?_⟩) hS0 ?_
          rotate_left
          · (intro wz hSw; (try dsimp only at hSw); go_simp; (try with_reducible rfl))
          simp only [Act.put, List.setIfInBounds_toArray]
          refine wpAnyT_take (i := 1) (v := ?_) rfl (by kernel_rfl) (by kernel_rfl) (by kernel_rfl) (fun _ _ _ h => h) (Or.inl ⟨by rfl, ?_⟩) hS0 ?_
          rotate_left
          · (intro wz hSw; (try dsimp only at hSw); go_simp; (try with_reducible rfl))
          simp only [Act.put]
          refine wpAnyT_take (i := 2) (v := ?_) rfl (by kernel_rfl) (by kernel_rfl) (by kernel_rfl) (fun _ _ _ h => h) (Or.inl ⟨by rfl, ?_⟩) hS0 ?_
          rotate_left
          · (intro wz hSw; (try dsimp only at hSw); go_simp; (try with_reducible rfl))
          simp only [Act.put]
          refine wpAnyT_take (i := 3) (v := ?_) rfl (by kernel_rfl) (by kernel_rfl) (by kernel_rfl) (fun _ _ _ h => h) (Or.inl ⟨by rfl, ?_⟩) hS0 ?_
          rotate_left
          · (intro wz hSw; (try dsimp only at hSw); go_simp; (try with_reducible rfl))
          simp only [Act.put]
          refine wpAnyT_take (i := 4) (v := ?_) rfl (by kernel_rfl) (by kernel_rfl) (by kernel_rfl) (fun _ _ _ h => h) (Or.inl ⟨by rfl, ?_⟩) hS0 ?_
          rotate_left
          · (intro wz hSw; (try dsimp only at hSw); go_simp; (try with_reducible rfl))
          simp only [Act.put]
          refine wpAnyT_take (i := 5) (v := ?_) rfl (by kernel_rfl) (by kernel_rfl) (by kernel_rfl) (fun _ _ _ h => h) (Or.inl ⟨by rfl, ?_⟩) hS0 ?_
          rotate_left
          · (intro wz hSw; (try dsimp only at hSw); go_simp; (try with_reducible rfl))
          simp only [Act.put]
          refine wpAnyT_take (i := 6) (v := ?_) rfl (by kernel_rfl) (by kernel_rfl) (by kernel_rfl) (fun _ _ _ h => h) (Or.inl ⟨by rfl, ?_⟩) hS0 ?_
          rotate_left
          · (intro wz hSw; (try dsimp only at hSw); go_simp; (try with_reducible rfl))
          simp only [Act.put]
          refine wpAnyT_takeS (i := 7) (v := ?_) rfl (by kernel_rfl) (by kernel_rfl) (by kernel_rfl) (by kernel_rfl) (fun _ _ _ h => h) (Or.inl ⟨by rfl, ?_⟩) hS0 hS1 ?_
          rotate_left
          · (intro wz hSw; (try dsimp only at hSw); go_simp; (try with_reducible rfl))
          simp only [Act.put]
          refine wpAnyT_take (i := 8) (v := ?_) rfl (by kernel_rfl) (by kernel_rfl) (by kernel_rfl) (fun _ _ _ h => h) (Or.inl ⟨by rfl, ?_⟩) hS0 ?_
          rotate_left
          · (intro wz hSw; (try dsimp only at hSw); go_simp; (try with_reducible rfl))
          simp only [Act.put]
          refine wpAnyT_take (i := 9) (v := ?_) rfl (by kernel_rfl) (by kernel_rfl) (by kernel_rfl) (fun _ _ _ h => h) (Or.inl ⟨by rfl, ?_⟩) hS0 ?_
          rotate_left
          · (intro wz hSw; (try dsimp only at hSw); go_simp; (try with_reducible rfl))
          simp only [Act.put]
          refine wpAnyT_take (i := 10) (v := ?_) rfl (by kernel_rfl) (by kernel_rfl) (by kernel_rfl) (fun _ _ _ h => h) (Or.inl ⟨by rfl, ?_⟩) hS0 ?_
          rotate_left
          · (intro wz hSw; (try dsimp only at hSw); go_simp; (try with_reducible rfl))
          simp only [Act.put]
          refine wpAnyT_take (i := 11) (v := ?_) rfl (by kernel_rfl) (by kernel_rfl) (by kernel_rfl) (fun _ _ _ h => h) (Or.inl ⟨by rfl, ?_⟩) hS0 ?_
          rotate_left
          · (intro wz hSw; (try dsimp only at hSw); go_simp; (try with_reducible rfl))
          simp only [Act.put]
          refine wpAnyT_take (i := 12) (v := ?_) rfl (by kernel_rfl) (by kernel_rfl) (by kernel_rfl) (fun _ _ _ h => h) (Or.inl ⟨by rfl, ?_⟩) hS0 ?_
          rotate_left
          · (intro wz hSw; (try dsimp only at hSw); go_simp; (try with_reducible rfl))
          simp only [Act.put]
          refine wpAnyT_takeS (i := 13) (v := ?_) rfl (by kernel_rfl) (by kernel_rfl) (by kernel_rfl) (by kernel_rfl) (fun _ _ _ h => h) (Or.inl ⟨by rfl, ?_⟩) hS0 hS1 ?_
          rotate_left
          · (intro wz hSw; (try dsimp only at hSw); go_simp; (try with_reducible rfl))
          simp only [Act.put]
          refine wpAnyT_one (i := 14) (by kernel_rfl) rfl (fun K hK => ?_)
          go_simp
          refine (muladd_any 0 _ _ R2[m] R2[row] xx hx256 (by rw [HW2.out row (by omega)]; omega) _ v1 v2).mono ?_
          rintro x w2 ⟨u, rfl, hr2, hB2⟩
          have hle : R2[m].length = (scaleL xx R2[row]).length := by rw [scaleL_length, HW2.out m (by omega), HW2.out row (by omega)]
          have hE : lenE R2[m] (scaleL xx R2[row]) = 0 := by unfold lenE; rw [if_pos hle]
          have hV : addV R2[m] (scaleL xx R2[row]) = mulAddL R2[m] xx R2[row] := by unfold addV; rw [if_pos hle]; rfl
          rw [hE]
          rw [hV] at hr2
          obtain ⟨au, cu, rfl, -⟩ := hr2.at
          have hS02 : w2.cell? ⟨bx, 0, none⟩ = some (.slice (some ⟨gm, om, none⟩) n cm) ∧ w2.cell? ⟨bx, 1, none⟩ = some (.slice (some ⟨go', oo, none⟩) n co) := ⟨(hB2.cell (p := ⟨bx, 0, none⟩) qx).trans hS0.1, (hB2.cell (p := ⟨bx, 1, none⟩) qx).trans hS0.2⟩
          refine hK.out _ _ hS02 (fun _ h => ⟨(hB2.cell (p := ⟨go', oo + m, none⟩) l1).trans h.1, (hB2.cell (p := ⟨go', oo + row, none⟩) l1).trans h.2⟩) ?_
          clear hK K hS1 hE hV hle
          replace hor3 := hor3.chain hB2
          replace hmr3 := hmr3.chain hB2
          replace hOR := hOR.trans ((Only.of_below (S := []) hB2).mono (S' := [gm, go']) (by simp))
          clear hS0 v1 v2 l1 l2 qx hB2
          generalize (mulAddL R2[m] xx R2[row]).length = lub at *
          obtain ⟨az, cz, hcz, -⟩ := hor3.read m (by omega)
          have hfz := hor3.free (oo + m)
          refine wpAnyT_take (i := 15) (v := ?_) rfl (by kernel_rfl) (by kernel_rfl) (by kernel_rfl) (fun _ _ _ h => h) (Or.inl ⟨by rfl, ?_⟩) hS02 ?_
          rotate_left
          · (intro wz hSw; (try dsimp only at hSw); go_simp; (try with_reducible rfl))
          simp only [Act.put]
          refine wpAnyT_take (i := 16) (v := ?_) rfl (by kernel_rfl) (by kernel_rfl) (by kernel_rfl) (fun _ _ _ h => h) (Or.inl ⟨by rfl, ?_⟩) hS02 ?_
          rotate_left
          · (intro wz hSw; (try dsimp only at hSw); go_simp; (try with_reducible rfl))
          simp only [Act.put]
          refine wpAnyT_take (i := 17) (v := ?_) rfl (by kernel_rfl) (by kernel_rfl) (by kernel_rfl) (fun _ _ _ h => h) (Or.inl ⟨by rfl, ?_⟩) hS02 ?_
          rotate_left
          · (intro wz hSw; (try dsimp only at hSw); go_simp; (try with_reducible rfl))
          simp only [Act.put]
          refine wpAnyT_take (i := 18) (v := ?_) rfl (by kernel_rfl) (by kernel_rfl) (by kernel_rfl) (fun _ _ _ h => h) (Or.inl ⟨by rfl, ?_⟩) hS02 ?_
          rotate_left
          · (intro wz hSw; (try dsimp only at hSw); go_simp; (try with_reducible rfl))
          simp only [Act.put]
          refine wpAnyT_one (i := 19) (by kernel_rfl) rfl (fun K hK => ?_)
          go_simp
          have hor33 := hor3.store m (by omega) _ _ _ _ hr2
          have hmr33 := hmr3.other ⟨go', oo + m, none⟩ (.slice au lub cu) (hne) hor3.apart
          replace hOR := hOR.setCell ⟨go', oo + m, none⟩ (.slice au lub cu) (.inl (by simp))
          have hS03 : (w2.setCell ⟨go', oo + m, none⟩ (.slice au lub cu)).cell? ⟨bx, 0, none⟩ = some (.slice (some ⟨gm, om, none⟩) n cm) ∧ (w2.setCell ⟨go', oo + m, none⟩ (.slice au lub cu)).cell? ⟨bx, 1, none⟩ = some (.slice (some ⟨go', oo, none⟩) n co) := ⟨(World.cell?_setCell_far _ _ _ _ (by simp; omega)).trans hS02.1, (World.cell?_setCell_far _ _ _ _ (by simp; omega)).trans hS02.2⟩
          generalize (w2.setCell ⟨go', oo + m, none⟩ (.slice au lub cu)) = w4 at *
          refine hK.out _ _ hS03 (fun h => absurd h (by decide)) ?_
          clear hK K hS02 hor3 hmr3 hcz hfz hr2
          refine wpAnyT_done (by kernel_rfl) ?_ _
          obtain ⟨q0, q1⟩ := hS03
          go_wp2_with fail
          go_roundw
          case rel => exact ⟨m + 1, by omega, by go_num, by rw [HS.out, ← HSET.out.1]; exact hmr33, by rw [HS.out, ← HSET.out.2]; exact hor33, hOR, q0, q1⟩
          case measure => simp [intOf]; omega
    · obtain rfl : m = n := by omega
      go_wp2_with fail
      go_end0
      subst hl
      exact ⟨rfl, ⟨hmr, hor, hne, by unfold clearL; rw [(clearSo_len row place M O _).1, (clearSo_len row place M O _).2]; exact hlo⟩, hOR⟩
end Go.Proofs.Ytibilabhokkhmaa
