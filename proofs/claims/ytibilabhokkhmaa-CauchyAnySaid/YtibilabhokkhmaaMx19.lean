/-
  Tables of bytes: the chapter's example (the laws of layer 3).
-/
import Derived.Test.YtibilabhokkhmaaMx18
namespace Go.Proofs.Ytibilabhokkhmaa
open Go.RowKit
set_option linter.unusedVariables false
set_option maxRecDepth 100000
set_option maxHeartbeats 1000000
/-- A row that is written out. -/
theorem lit_row (w : World) (r : List Nat) (hr : ∀ x ∈ r, x < 256) (hm : r.length ≤ 65536) : RowAt 0 (w.alloc (.cells (u8s r).toArray 5)) (.slice (some ⟨w.heap.size, 0, none⟩) r.length r.length) r :=
  RowAt.of_blk (Blk.new _ _ _) (Nat.le_refl _) (by unfold maxLen; omega) hr
/-- A table of rows that are written out. -/
theorem lit_mat (w : World) (us : List Value) (rows : Tab) (hl : us.length = rows.length) (hm : us.length ≤ 65536) (h : ∀ i (h : i < us.length) (h' : i < rows.length), RowAt 0 w us[i] rows[i]) :
    MatAt 0 (w.alloc (.cells us.toArray 24)) (.slice (some ⟨w.heap.size, 0, none⟩) us.length us.length) rows :=
  ⟨us, hl, SlAt.of_blk (Blk.new _ _ _) (Nat.le_refl _) (by unfold maxLen; omega), fun i hi hi' => (h i hi hi').chain (Below.chainAlloc (Below.refl _ _) _)⟩
theorem lit2 (w : World) (r s : List Nat) (hr : ∀ x ∈ r, x < 256) (hs : ∀ x ∈ s, x < 256) (hmr : r.length ≤ 65536) (hms : s.length ≤ 65536) :
    MatAt 0 (((w.alloc (.cells (u8s r).toArray 5)).alloc (.cells (u8s s).toArray 5)).alloc (.cells #[.slice (some ⟨w.heap.size, 0, none⟩) r.length r.length, .slice (some ⟨w.heap.size + 1, 0, none⟩) s.length s.length] 24)) (.slice (some ⟨w.heap.size + 1 + 1, 0, none⟩) 2 2) [r, s]
    ∧ Below w.heap.size w (((w.alloc (.cells (u8s r).toArray 5)).alloc (.cells (u8s s).toArray 5)).alloc (.cells #[.slice (some ⟨w.heap.size, 0, none⟩) r.length r.length, .slice (some ⟨w.heap.size + 1, 0, none⟩) s.length s.length] 24)) := by
  have h1 := (lit_row w r hr hmr).chain (Below.chainAlloc (Below.refl _ _) (.cells (u8s s).toArray 5))
  have h2 := lit_row (w.alloc (.cells (u8s r).toArray 5)) s hs hms
  rw [size_alloc] at h2
  have h3 := lit_mat ((w.alloc (.cells (u8s r).toArray 5)).alloc (.cells (u8s s).toArray 5)) [.slice (some ⟨w.heap.size, 0, none⟩) r.length r.length, .slice (some ⟨w.heap.size + 1, 0, none⟩) s.length s.length] [r, s] rfl (by simp) (fun i hi hi' => by
    match i, hi, hi' with
    | 0, _, _ => exact h1
    | 1, _, _ => exact h2)
  rw [size_alloc, size_alloc] at h3
  exact ⟨h3, Below.chainAlloc (Below.chainAlloc (Below.chainAlloc (Below.refl _ _) _) _) _⟩
theorem lit1 (w : World) (r : List Nat) (hr : ∀ x ∈ r, x < 256) (hmr : r.length ≤ 65536) :
    MatAt 0 ((w.alloc (.cells (u8s r).toArray 5)).alloc (.cells #[.slice (some ⟨w.heap.size, 0, none⟩) r.length r.length] 24)) (.slice (some ⟨w.heap.size + 1, 0, none⟩) 1 1) [r]
    ∧ Below w.heap.size w ((w.alloc (.cells (u8s r).toArray 5)).alloc (.cells #[.slice (some ⟨w.heap.size, 0, none⟩) r.length r.length] 24)) := by
  have h3 := lit_mat (w.alloc (.cells (u8s r).toArray 5)) [.slice (some ⟨w.heap.size, 0, none⟩) r.length r.length] [r] rfl (by simp) (fun i hi hi' => by
    match i, hi, hi' with
    | 0, _, _ => exact lit_row w r hr hmr)
  rw [size_alloc] at h3
  exact ⟨h3, Below.chainAlloc (Below.chainAlloc (Below.refl _ _) _) _⟩
theorem awake03 (w : World) : Calls Try.prog 22 #[] w fun e w' => e = .returned (.bool true) ∧ Below w.heap.size w w' := by
  have v1 := Lib.hid (show invE [[0, 1], [1, 0]] = 0 ∧ invV [[0, 1], [1, 0]] = [[0, 1], [1, 0]] by decide +kernel)
  have v2 := Lib.hid (show invE [[1, 2], [1, 2]] = 14 by decide +kernel)
  have v3 := Lib.hid (show invE [[1, 2]] = 16 by decide +kernel)
  have v4 := Lib.hid (show rankV [[1, 2], [2, 4]] = 1 ∧ chkM [[1, 2], [2, 4]] = 0 by decide +kernel)
  have v5 := Lib.hid (show chkM [[1], []] = 16 ∧ chkM [] = 1 by decide +kernel)
  have v6 := Lib.hid (show badZ 2 = false ∧ badZ 0 = true by decide)
  go_enter Try.func22, Try.ntmps22
  go_wp2_with fail
  have hb : Below w.heap.size w _ := (lit2 w [0, 1] [1, 0] (by decide) (by decide) (by decide) (by decide)).2
  have hm1 : MatAt 0 _ _ _ := (lit2 w [0, 1] [1, 0] (by decide) (by decide) (by decide) (by decide)).1
  refine (invert_any 0 _ [[0, 1], [1, 0]] _ hm1).mono ?_
  rintro e w1 ⟨x1, rfl, hx1, hb1⟩
  rw [v1.out.1]
  rw [v1.out.2] at hx1
  replace hm1 := hm1.chain hb1
  have hB := Below.chain hb1 hb
  clear hb hb1
  obtain ⟨ax, cx, rfl, -, -⟩ := hx1.at
  go_wp2_with fail
  have hb : Below w1.heap.size w1 _ := (lit2 w1 [1, 2] [1, 2] (by decide) (by decide) (by decide) (by decide)).2
  have hm : MatAt 0 _ _ _ := (lit2 w1 [1, 2] [1, 2] (by decide) (by decide) (by decide) (by decide)).1
  refine (invert_any 0 _ [[1, 2], [1, 2]] _ hm).mono ?_
  rintro e w2 ⟨x2, rfl, hx2, hb2⟩
  rw [v2.out]
  replace hb := Below.chain hb2 hb
  replace hm1 := hm1.chain hb
  replace hx1 := hx1.chain hb
  replace hB := Below.chain hb hB
  clear hb hb2 hm
  obtain ⟨ay, cy, rfl, -, -⟩ := hx2.at
  clear hx2
  go_wp2_with fail
  have hb : Below w2.heap.size w2 _ := (lit1 w2 [1, 2] (by decide) (by decide)).2
  have hm : MatAt 0 _ _ _ := (lit1 w2 [1, 2] (by decide) (by decide)).1
  refine (invert_any 0 _ [[1, 2]] _ hm).mono ?_
  rintro e w3 ⟨x3, rfl, hx3, hb3⟩
  rw [v3.out]
  replace hb := Below.chain hb3 hb
  replace hm1 := hm1.chain hb
  replace hx1 := hx1.chain hb
  replace hB := Below.chain hb hB
  clear hb hb3 hm
  obtain ⟨az, cz, rfl, -, -⟩ := hx3.at
  clear hx3
  go_wp2_with fail
  have hb : Below w3.heap.size w3 _ := (lit2 w3 [1, 2] [2, 4] (by decide) (by decide) (by decide) (by decide)).2
  have hm : MatAt 0 _ _ _ := (lit2 w3 [1, 2] [2, 4] (by decide) (by decide) (by decide) (by decide)).1
  refine (rank_any 0 _ [[1, 2], [2, 4]] _ hm).mono ?_
  rintro e w4 ⟨rfl, hb4⟩
  rw [v4.out.1, v4.out.2]
  replace hb := Below.chain hb4 hb
  replace hm1 := hm1.chain hb
  replace hx1 := hx1.chain hb
  replace hB := Below.chain hb hB
  clear hb hb4 hm
  go_wp2_with fail
  refine (ident_any 2 _).mono ?_
  rintro e w5 ⟨x5, rfl, hx5, hb5⟩
  rw [v6.out.1] at hx5 ⊢
  replace hm1 := hm1.chain hb5
  replace hx1 := hx1.chain hb5
  replace hB := Below.chain hb5 hB
  clear hb5
  obtain ⟨ai, ci, rfl, -, -⟩ := hx5.at
  go_wp2_with fail
  refine (ident_any 0 _).mono ?_
  rintro e w6 ⟨x6, rfl, hx6, hb6⟩
  rw [v6.out.2]
  replace hm1 := hm1.chain hb6
  replace hx1 := hx1.chain hb6
  replace hx5 := hx5.chain hb6
  replace hB := Below.chain hb6 hB
  clear hb6
  obtain ⟨aj, cj, rfl, -, -⟩ := hx6.at
  clear hx6
  go_wp2_with fail
  have hI5 : MatAt 0 w6 (.slice ai 2 ci) [[1, 0], [0, 1]] := hx5
  refine (sameM_any _ hx1 hm1).mono ?_
  have s1 : sameMB [[0, 1], [1, 0]] [[0, 1], [1, 0]] = true := by decide
  rw [s1]
  rintro e w7 ⟨rfl, hd⟩
  replace hI5 := hI5.chain hd.below
  replace hB := Below.chain hd.below hB
  clear hd s1 hx5 hx1 hm1
  go_wp2_with fail
  have hb : Below w7.heap.size w7 _ := (lit2 w7 [1, 0] [0, 1] (by decide) (by decide) (by decide) (by decide)).2
  have hm : MatAt 0 _ _ _ := (lit2 w7 [1, 0] [0, 1] (by decide) (by decide) (by decide) (by decide)).1
  refine (sameM_any _ (hI5.chain hb) hm).mono ?_
  have s1 : sameMB [[1, 0], [0, 1]] [[1, 0], [0, 1]] = true := by decide
  rw [s1]
  rintro e w8 ⟨rfl, hd⟩
  replace hB := Below.chain (Below.chain hd.below hb) hB
  clear hd s1 hm hI5 hb
  go_wp2_with fail
  have hb : Below w8.heap.size w8 _ := (lit2 w8 [1] [] (by decide) (by decide) (by decide) (by decide)).2
  have hm : MatAt 0 _ _ _ := (lit2 w8 [1] [] (by decide) (by decide) (by decide) (by decide)).1
  refine (check_any 0 _ [[1], []] _ hm).mono ?_
  rw [v5.out.1]
  rintro e w9 ⟨rfl, rfl⟩
  replace hB := Below.chain hb hB
  clear hb hm
  go_wp2_with fail
  refine (check_any 0 _ [] _ (MatAt.nil _ _)).mono ?_
  rw [v5.out.2]
  rintro e w9 ⟨rfl, rfl⟩
  go_wp2_with fail
  go_ret
  exact ⟨rfl, hB⟩
end Go.Proofs.Ytibilabhokkhmaa
