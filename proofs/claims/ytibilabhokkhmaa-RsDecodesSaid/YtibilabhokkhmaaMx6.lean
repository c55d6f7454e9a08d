/-
  Tables of bytes: what is looked for, exchanged: plain, and the program's contracts (chapter 3).
-/
import Derived.Test.YtibilabhokkhmaaMx5
import Derived.Test.YtibilabhokkhmaaRegT
namespace Go.Proofs.Ytibilabhokkhmaa
open Go.RowKit
set_option linter.unusedVariables false
set_option maxRecDepth 100000
set_option maxHeartbeats 1000000
def entM (M : List (List Nat)) (i j : Nat) : Nat := (M.getD i []).getD j 0
def pivN (M : List (List Nat)) (place : Nat) : Nat → Nat → Option Nat
  | 0, _ => none
  | k + 1, i => if entM M i place = 0 then pivN M place k (i + 1) else some i
def pivL (M : List (List Nat)) (at' place : Nat) : Option Nat := pivN M place (M.length - at') at'
def pivZ (M : List (List Nat)) (at' place : Nat) : Int := match pivL M at' place with | none => -1 | some i => i
def swapL (M : List (List Nat)) (i k : Nat) : List (List Nat) := (M.set i (M.getD k [])).set k (M.getD i [])
theorem swapL_length (M : List (List Nat)) (i k : Nat) : (swapL M i k).length = M.length := by simp [swapL]
/-- A pair of tables of the call's own: their headers' parts, their rows. -/
structure OwnP (w : World) (gm om : Nat) (go' oo : Nat) (M O : List (List Nat)) : Prop where
  m : OwnM w gm om M
  o : OwnM w go' oo O
  ne : gm ≠ go'
  len : O.length = M.length
theorem OwnP.chain {w w' : World} {gm om go' oo : Nat} {M O : List (List Nat)} (h : OwnP w gm om go' oo M O) (hb : Below w.heap.size w w') : OwnP w' gm om go' oo M O := ⟨h.m.chain hb, h.o.chain hb, h.ne, h.len⟩
theorem getD_get {α : Type} (l : List α) (i : Nat) (d : α) (h : i < l.length) : l.getD i d = l[i] := by simp [List.getD, List.getElem?_eq_getElem h]
theorem swap_any (gm om cm go' oo co n : Nat) (M O : List (List Nat)) (i k : Nat) (hi : i < n) (hk : k < n) (hn : n ≤ 255) (w : World) (h : OwnP w gm om go' oo M O) (hl : M.length = n) :
    Calls Try.prog 66 #[.agg #[.slice (some ⟨gm, om, none⟩) n cm, .slice (some ⟨go', oo, none⟩) n co], .int .i64 i, .int .i64 k] w fun e w' => e = .returned (.tuple #[]) ∧ OwnP w' gm om go' oo (swapL M i k) (swapL O i k) ∧ Only [gm, go'] w w' := by
  have hm := h.m
  have ho := h.o
  have hlo : O.length = n := by have := h.len; omega
  have lm := hm.lt
  have lo := ho.lt
  have hne := h.ne
  have hi0 : (0 : Int) ≤ (i : Int) := by omega
  have hk0 : (0 : Int) ≤ (k : Int) := by omega
  have hi1 : (i : Int) < (n : Int) := by omega
  have hk1 : (k : Int) < (n : Int) := by omega
  have hsw : (M.set i M[k]).set k M[i] = swapL M i k ∧ (O.set i O[k]).set k O[i] = swapL O i k := by
    unfold swapL
    rw [getD_get M k _ (by omega), getD_get M i _ (by omega), getD_get O k _ (by omega), getD_get O i _ (by omega)]
    exact ⟨rfl, rfl⟩
  have HSW := Lib.hid hsw
  have kb := Blk.new w #[.slice (some ⟨gm, om, none⟩) n cm, .slice (some ⟨go', oo, none⟩) n co] 84
  have hB := Below.chainAlloc (Below.refl w.heap.size w) (.cells #[.slice (some ⟨gm, om, none⟩) n cm, .slice (some ⟨go', oo, none⟩) n co] 84)
  have q0 : (w.alloc (.cells #[.slice (some ⟨gm, om, none⟩) n cm, .slice (some ⟨go', oo, none⟩) n co] 84)).cell? ⟨w.heap.size, 0, none⟩ = some (.slice (some ⟨gm, om, none⟩) n cm) := kb.facts.1 0
  have q1 : (w.alloc (.cells #[.slice (some ⟨gm, om, none⟩) n cm, .slice (some ⟨go', oo, none⟩) n co] 84)).cell? ⟨w.heap.size, 1, none⟩ = some (.slice (some ⟨go', oo, none⟩) n co) := kb.facts.1 1
  clear hsw
  go_enter Try.func66, Try.ntmps66
  go_wp2_with fail
  have hmW := hm.chain hB
  have hoW := ho.chain hB
  have hOW := Only.of_below (S := []) hB
  clear kb hB
  generalize (w.alloc (.cells #[.slice (some ⟨gm, om, none⟩) n cm, .slice (some ⟨go', oo, none⟩) n co] 84)) = W at *
  generalize hbx : w.heap.size = bx at *
  have hmbx : gm ≠ bx := by omega
  have hobx : go' ≠ bx := by omega
  clear hbx
  obtain ⟨a1m, c1m, m1m, r1m⟩ := hmW.read i (by omega)
  obtain ⟨a2m, c2m, m2m, r2m⟩ := hmW.read k (by omega)
  have fmm := hmW.free (om + i)
  generalize M[i].length = x1m at *
  generalize M[k].length = x2m at *
  refine wp_region_T (fun w' => w'.cell? ⟨bx, 0, none⟩ = some (.slice (some ⟨gm, om, none⟩) n cm) ∧ w'.cell? ⟨bx, 1, none⟩ = some (.slice (some ⟨go', oo, none⟩) n co)) (fun w' => w'.cell? ⟨gm, om + i, none⟩ = some (.slice a1m x1m c1m) ∧ w'.cell? ⟨gm, om + k, none⟩ = some (.slice a2m x2m c2m)) (fun j => j == 17 || j == 19) (by kernel_rfl) ?_
  have hS0 : W.drew.cell? ⟨bx, 0, none⟩ = some (.slice (some ⟨gm, om, none⟩) n cm) ∧ W.drew.cell? ⟨bx, 1, none⟩ = some (.slice (some ⟨go', oo, none⟩) n co) := ⟨q0, q1⟩
  have hS1 : W.drew.cell? ⟨gm, om + i, none⟩ = some (.slice a1m x1m c1m) ∧ W.drew.cell? ⟨gm, om + k, none⟩ = some (.slice a2m x2m c2m) := ⟨m1m, m2m⟩
  refine wpAnyT_take (i := 0) (v := ?_) rfl (by kernel_rfl) (by kernel_rfl) (by kernel_rfl) (fun _ _ _ h => h) (Or.inl ⟨by rfl, ?_⟩) hS0 ?_
  rotate_left
  · (intro wz hSw; (try dsimp only at hSw); go_simp; (try with_reducible rfl))
  simp only [Act.put, List.setIfInBounds_toArray]
  refine wpAnyT_take (i := 1) (v := ?_) rfl (by kernel_rfl) (by kernel_rfl) (by kernel_rfl) (fun _ _ _ h => h) (Or.inl ⟨by rfl, ?_⟩) hS0 ?_
  rotate_left
  · (intro wz hSw; (try dsimp only at hSw); go_simp; (try with_reducible rfl))
  simp only [Act.put]
  refine wpAnyT_take (i := 2) (v := ?_) rfl (by kernel_rfl) (by kernel_rfl) (by kernel_rfl) (fun _ _ _ h => h) (Or.inl ⟨by rfl, ?_⟩) hS0 ?_
  rotate_left
  · (intro wz hSw; (try dsimp only at hSw); go_simp; (try with_reducible rfl))
  simp only [Act.put]
  refine wpAnyT_take (i := 3) (v := ?_) rfl (by kernel_rfl) (by kernel_rfl) (by kernel_rfl) (fun _ _ _ h => h) (Or.inl ⟨by rfl, ?_⟩) hS0 ?_
  rotate_left
  · (intro wz hSw; (try dsimp only at hSw); go_simp; (try with_reducible rfl))
  simp only [Act.put]
  refine wpAnyT_take (i := 4) (v := ?_) rfl (by kernel_rfl) (by kernel_rfl) (by kernel_rfl) (fun _ _ _ h => h) (Or.inl ⟨by rfl, ?_⟩) hS0 ?_
  rotate_left
  · (intro wz hSw; (try dsimp only at hSw); go_simp; (try with_reducible rfl))
  simp only [Act.put]
  refine wpAnyT_take (i := 5) (v := ?_) rfl (by kernel_rfl) (by kernel_rfl) (by kernel_rfl) (fun _ _ _ h => h) (Or.inl ⟨by rfl, ?_⟩) hS0 ?_
  rotate_left
  · (intro wz hSw; (try dsimp only at hSw); go_simp; (try with_reducible rfl))
  simp only [Act.put]
  refine wpAnyT_take (i := 6) (v := ?_) rfl (by kernel_rfl) (by kernel_rfl) (by kernel_rfl) (fun _ _ _ h => h) (Or.inl ⟨by rfl, ?_⟩) hS0 ?_
  rotate_left
  · (intro wz hSw; (try dsimp only at hSw); go_simp; (try with_reducible rfl))
  simp only [Act.put]
  refine wpAnyT_take (i := 7) (v := ?_) rfl (by kernel_rfl) (by kernel_rfl) (by kernel_rfl) (fun _ _ _ h => h) (Or.inl ⟨by rfl, ?_⟩) hS0 ?_
  rotate_left
  · (intro wz hSw; (try dsimp only at hSw); go_simp; (try with_reducible rfl))
  simp only [Act.put]
  refine wpAnyT_take (i := 8) (v := ?_) rfl (by kernel_rfl) (by kernel_rfl) (by kernel_rfl) (fun _ _ _ h => h) (Or.inl ⟨by rfl, ?_⟩) hS0 ?_
  rotate_left
  · (intro wz hSw; (try dsimp only at hSw); go_simp; (try with_reducible rfl))
  simp only [Act.put]
  refine wpAnyT_take (i := 9) (v := ?_) rfl (by kernel_rfl) (by kernel_rfl) (by kernel_rfl) (fun _ _ _ h => h) (Or.inl ⟨by rfl, ?_⟩) hS0 ?_
  rotate_left
  · (intro wz hSw; (try dsimp only at hSw); go_simp; (try with_reducible rfl))
  simp only [Act.put]
  refine wpAnyT_takeS (i := 10) (v := ?_) rfl (by kernel_rfl) (by kernel_rfl) (by kernel_rfl) (by kernel_rfl) (fun _ _ _ h => h) (Or.inl ⟨by rfl, ?_⟩) hS0 hS1 ?_
  rotate_left
  · (intro wz hSw; (try dsimp only at hSw); go_simp; (try with_reducible rfl))
  simp only [Act.put]
  refine wpAnyT_take (i := 11) (v := ?_) rfl (by kernel_rfl) (by kernel_rfl) (by kernel_rfl) (fun _ _ _ h => h) (Or.inl ⟨by rfl, ?_⟩) hS0 ?_
  rotate_left
  · (intro wz hSw; (try dsimp only at hSw); go_simp; (try with_reducible rfl))
  simp only [Act.put]
  refine wpAnyT_take (i := 12) (v := ?_) rfl (by kernel_rfl) (by kernel_rfl) (by kernel_rfl) (fun _ _ _ h => h) (Or.inl ⟨by rfl, ?_⟩) hS0 ?_
  rotate_left
  · (intro wz hSw; (try dsimp only at hSw); go_simp; (try with_reducible rfl))
  simp only [Act.put]
  refine wpAnyT_take (i := 13) (v := ?_) rfl (by kernel_rfl) (by kernel_rfl) (by kernel_rfl) (fun _ _ _ h => h) (Or.inl ⟨by rfl, ?_⟩) hS0 ?_
  rotate_left
  · (intro wz hSw; (try dsimp only at hSw); go_simp; (try with_reducible rfl))
  simp only [Act.put]
  refine wpAnyT_take (i := 14) (v := ?_) rfl (by kernel_rfl) (by kernel_rfl) (by kernel_rfl) (fun _ _ _ h => h) (Or.inl ⟨by rfl, ?_⟩) hS0 ?_
  rotate_left
  · (intro wz hSw; (try dsimp only at hSw); go_simp; (try with_reducible rfl))
  simp only [Act.put]
  refine wpAnyT_takeS (i := 15) (v := ?_) rfl (by kernel_rfl) (by kernel_rfl) (by kernel_rfl) (by kernel_rfl) (fun _ _ _ h => h) (Or.inl ⟨by rfl, ?_⟩) hS0 hS1 ?_
  rotate_left
  · (intro wz hSw; (try dsimp only at hSw); go_simp; (try with_reducible rfl))
  simp only [Act.put]
  refine wpAnyT_take (i := 16) (v := ?_) rfl (by kernel_rfl) (by kernel_rfl) (by kernel_rfl) (fun _ _ _ h => h) (Or.inl ⟨by rfl, ?_⟩) hS0 ?_
  rotate_left
  · (intro wz hSw; (try dsimp only at hSw); go_simp; (try with_reducible rfl))
  simp only [Act.put]
  refine wpAnyT_one (i := 17) (by kernel_rfl) rfl (fun K hK => ?_)
  go_simp
  have hst := hmW.store i (by omega) _ _ _ _ r2m
  have hoth := hoW.other ⟨gm, om + i, none⟩ (.slice a2m x2m c2m) (Ne.symm hne) hmW.apart
  have hr1 := r1m.store ⟨gm, om + i, none⟩ (.slice a2m x2m c2m) hmW.apart
  have hoS := (Only.refl [gm] W).setCell ⟨gm, om + i, none⟩ (.slice a2m x2m c2m) (.inl (by simp))
  have hS0' : (W.setCell ⟨gm, om + i, none⟩ (.slice a2m x2m c2m)).cell? ⟨bx, 0, none⟩ = some (.slice (some ⟨gm, om, none⟩) n cm) ∧ (W.setCell ⟨gm, om + i, none⟩ (.slice a2m x2m c2m)).cell? ⟨bx, 1, none⟩ = some (.slice (some ⟨go', oo, none⟩) n co) :=
    ⟨(World.cell?_setCell_far _ _ _ _ (by simp; omega)).trans hS0.1, (World.cell?_setCell_far _ _ _ _ (by simp; omega)).trans hS0.2⟩
  generalize (W.setCell ⟨gm, om + i, none⟩ (.slice a2m x2m c2m)) = Wa at *
  refine hK.out _ _ hS0' (fun h => absurd h (by decide)) ?_
  clear hK K
  refine wpAnyT_take (i := 18) (v := ?_) rfl (by kernel_rfl) (by kernel_rfl) (by kernel_rfl) (fun _ _ _ h => h) (Or.inl ⟨by rfl, ?_⟩) hS0' ?_
  rotate_left
  · (intro wz hSw; (try dsimp only at hSw); go_simp; (try with_reducible rfl))
  simp only [Act.put]
  obtain ⟨az, cz, hcz, -⟩ := hst.read k (by simp; omega)
  have hfz := hst.free (om + k)
  have hst2m := hst.store k (by simp; omega) _ _ _ _ hr1
  refine wpAnyT_one (i := 19) (by kernel_rfl) rfl (fun K hK => ?_)
  go_simp
  have hoth2m := hoth.other ⟨gm, om + k, none⟩ (.slice a1m x1m c1m) (Ne.symm hne) hst.apart
  have hoS2m := hoS.setCell ⟨gm, om + k, none⟩ (.slice a1m x1m c1m) (.inl (by simp))
  have hS0a : (Wa.setCell ⟨gm, om + k, none⟩ (.slice a1m x1m c1m)).cell? ⟨bx, 0, none⟩ = some (.slice (some ⟨gm, om, none⟩) n cm) ∧ (Wa.setCell ⟨gm, om + k, none⟩ (.slice a1m x1m c1m)).cell? ⟨bx, 1, none⟩ = some (.slice (some ⟨go', oo, none⟩) n co) :=
    ⟨(World.cell?_setCell_far _ _ _ _ (by simp; omega)).trans hS0'.1, (World.cell?_setCell_far _ _ _ _ (by simp; omega)).trans hS0'.2⟩
  clear hst hoth hr1 hoS hS0' hcz hfz hS0 hS1 m1m m2m r1m r2m fmm q0 q1
  generalize (Wa.setCell ⟨gm, om + k, none⟩ (.slice a1m x1m c1m)) = W2 at *
  refine hK.out _ _ hS0a (fun h => absurd h (by decide)) ?_
  clear hK K
  refine wpAnyT_done (by kernel_rfl) ?_ _
  obtain ⟨q0, q1⟩ := hS0a
  go_wp2_with fail
  obtain ⟨a1o, c1o, m1o, r1o⟩ := hoth2m.read i (by omega)
  obtain ⟨a2o, c2o, m2o, r2o⟩ := hoth2m.read k (by omega)
  have fmo := hoth2m.free (oo + i)
  generalize O[i].length = x1o at *
  generalize O[k].length = x2o at *
  refine wp_region_T (fun w' => w'.cell? ⟨bx, 0, none⟩ = some (.slice (some ⟨gm, om, none⟩) n cm) ∧ w'.cell? ⟨bx, 1, none⟩ = some (.slice (some ⟨go', oo, none⟩) n co)) (fun w' => w'.cell? ⟨go', oo + i, none⟩ = some (.slice a1o x1o c1o) ∧ w'.cell? ⟨go', oo + k, none⟩ = some (.slice a2o x2o c2o)) (fun j => j == 17 || j == 19) (by kernel_rfl) ?_
  have hS0 : W2.drew.cell? ⟨bx, 0, none⟩ = some (.slice (some ⟨gm, om, none⟩) n cm) ∧ W2.drew.cell? ⟨bx, 1, none⟩ = some (.slice (some ⟨go', oo, none⟩) n co) := ⟨q0, q1⟩
  have hS1 : W2.drew.cell? ⟨go', oo + i, none⟩ = some (.slice a1o x1o c1o) ∧ W2.drew.cell? ⟨go', oo + k, none⟩ = some (.slice a2o x2o c2o) := ⟨m1o, m2o⟩
  refine wpAnyT_take (i := 0) (v := ?_) rfl (by kernel_rfl) (by kernel_rfl) (by kernel_rfl) (fun _ _ _ h => h) (Or.inl ⟨by rfl, ?_⟩) hS0 ?_
  rotate_left
  · (intro wz hSw; (try dsimp only at hSw); go_simp; (try with_reducible rfl))
  simp only [Act.put, List.setIfInBounds_toArray]
  refine wpAnyT_take (i := 1) (v := ?_) rfl (by kernel_rfl) (by kernel_rfl) (by kernel_rfl) (fun _ _ _ h => h) (Or.inl ⟨by rfl, ?_⟩) hS0 ?_
  rotate_left
  · (intro wz hSw; (try dsimp only at hSw); go_simp; (try with_reducible rfl))
  simp only [Act.put]
  refine wpAnyT_take (i := 2) (v := ?_) rfl (by kernel_rfl) (by kernel_rfl) (by kernel_rfl) (fun _ _ _ h => h) (Or.inl ⟨by rfl, ?_⟩) hS0 ?_
  rotate_left
  · (intro wz hSw; (try dsimp only at hSw); go_simp; (try with_reducible rfl))
  simp only [Act.put]
  refine wpAnyT_take (i := 3) (v := ?_) rfl (by kernel_rfl) (by kernel_rfl) (by kernel_rfl) (fun _ _ _ h => h) (Or.inl ⟨by rfl, ?_⟩) hS0 ?_
  rotate_left
  · (intro wz hSw; (try dsimp only at hSw); go_simp; (try with_reducible rfl))
  simp only [Act.put]
  refine wpAnyT_take (i := 4) (v := ?_) rfl (by kernel_rfl) (by kernel_rfl) (by kernel_rfl) (fun _ _ _ h => h) (Or.inl ⟨by rfl, ?_⟩) hS0 ?_
  rotate_left
  · (intro wz hSw; (try dsimp only at hSw); go_simp; (try with_reducible rfl))
  simp only [Act.put]
  refine wpAnyT_take (i := 5) (v := ?_) rfl (by kernel_rfl) (by kernel_rfl) (by kernel_rfl) (fun _ _ _ h => h) (Or.inl ⟨by rfl, ?_⟩) hS0 ?_
  rotate_left
  · (intro wz hSw; (try dsimp only at hSw); go_simp; (try with_reducible rfl))
  simp only [Act.put]
  refine wpAnyT_take (i := 6) (v := ?_) rfl (by kernel_rfl) (by kernel_rfl) (by kernel_rfl) (fun _ _ _ h => h) (Or.inl ⟨by rfl, ?_⟩) hS0 ?_
  rotate_left
  · (intro wz hSw; (try dsimp only at hSw); go_simp; (try with_reducible rfl))
  simp only [Act.put]
  refine wpAnyT_take (i := 7) (v := ?_) rfl (by kernel_rfl) (by kernel_rfl) (by kernel_rfl) (fun _ _ _ h => h) (Or.inl ⟨by rfl, ?_⟩) hS0 ?_
  rotate_left
  · (intro wz hSw; (try dsimp only at hSw); go_simp; (try with_reducible rfl))
  simp only [Act.put]
  refine wpAnyT_take (i := 8) (v := ?_) rfl (by kernel_rfl) (by kernel_rfl) (by kernel_rfl) (fun _ _ _ h => h) (Or.inl ⟨by rfl, ?_⟩) hS0 ?_
  rotate_left
  · (intro wz hSw; (try dsimp only at hSw); go_simp; (try with_reducible rfl))
  simp only [Act.put]
  refine wpAnyT_take (i := 9) (v := ?_) rfl (by kernel_rfl) (by kernel_rfl) (by kernel_rfl) (fun _ _ _ h => h) (Or.inl ⟨by rfl, ?_⟩) hS0 ?_
  rotate_left
  · (intro wz hSw; (try dsimp only at hSw); go_simp; (try with_reducible rfl))
  simp only [Act.put]
  refine wpAnyT_takeS (i := 10) (v := ?_) rfl (by kernel_rfl) (by kernel_rfl) (by kernel_rfl) (by kernel_rfl) (fun _ _ _ h => h) (Or.inl ⟨by rfl, ?_⟩) hS0 hS1 ?_
  rotate_left
  · (intro wz hSw; (try dsimp only at hSw); go_simp; (try with_reducible rfl))
  simp only [Act.put]
  refine wpAnyT_take (i := 11) (v := ?_) rfl (by kernel_rfl) (by kernel_rfl) (by kernel_rfl) (fun _ _ _ h => h) (Or.inl ⟨by rfl, ?_⟩) hS0 ?_
  rotate_left
  · (intro wz hSw; (try dsimp only at hSw); go_simp; (try with_reducible rfl))
  simp only [Act.put]
  refine wpAnyT_take (i := 12) (v := ?_) rfl (by kernel_rfl) (by kernel_rfl) (by kernel_rfl) (fun _ _ _ h => h) (Or.inl ⟨by rfl, ?_⟩) hS0 ?_
  rotate_left
  · (intro wz hSw; (try dsimp only at hSw); go_simp; (try with_reducible rfl))
  simp only [Act.put]
  refine wpAnyT_take (i := 13) (v := ?_) rfl (by kernel_rfl) (by kernel_rfl) (by kernel_rfl) (fun _ _ _ h => h) (Or.inl ⟨by rfl, ?_⟩) hS0 ?_
  rotate_left
  · (intro wz hSw; (try dsimp only at hSw); go_simp; (try with_reducible rfl))
  simp only [Act.put]
  refine wpAnyT_take (i := 14) (v := ?_) rfl (by kernel_rfl) (by kernel_rfl) (by kernel_rfl) (fun _ _ _ h => h) (Or.inl ⟨by rfl, ?_⟩) hS0 ?_
  rotate_left
  · (intro wz hSw; (try dsimp only at hSw); go_simp; (try with_reducible rfl))
  simp only [Act.put]
  refine wpAnyT_takeS (i := 15) (v := ?_) rfl (by kernel_rfl) (by kernel_rfl) (by kernel_rfl) (by kernel_rfl) (fun _ _ _ h => h) (Or.inl ⟨by rfl, ?_⟩) hS0 hS1 ?_
  rotate_left
  · (intro wz hSw; (try dsimp only at hSw); go_simp; (try with_reducible rfl))
  simp only [Act.put]
  refine wpAnyT_take (i := 16) (v := ?_) rfl (by kernel_rfl) (by kernel_rfl) (by kernel_rfl) (fun _ _ _ h => h) (Or.inl ⟨by rfl, ?_⟩) hS0 ?_
  rotate_left
  · (intro wz hSw; (try dsimp only at hSw); go_simp; (try with_reducible rfl))
  simp only [Act.put]
  refine wpAnyT_one (i := 17) (by kernel_rfl) rfl (fun K hK => ?_)
  go_simp
  have hst := hoth2m.store i (by omega) _ _ _ _ r2o
  have hoth := hst2m.other ⟨go', oo + i, none⟩ (.slice a2o x2o c2o) (hne) hoth2m.apart
  have hr1 := r1o.store ⟨go', oo + i, none⟩ (.slice a2o x2o c2o) hoth2m.apart
  have hoS := (Only.refl [go'] W2).setCell ⟨go', oo + i, none⟩ (.slice a2o x2o c2o) (.inl (by simp))
  have hS0' : (W2.setCell ⟨go', oo + i, none⟩ (.slice a2o x2o c2o)).cell? ⟨bx, 0, none⟩ = some (.slice (some ⟨gm, om, none⟩) n cm) ∧ (W2.setCell ⟨go', oo + i, none⟩ (.slice a2o x2o c2o)).cell? ⟨bx, 1, none⟩ = some (.slice (some ⟨go', oo, none⟩) n co) :=
    ⟨(World.cell?_setCell_far _ _ _ _ (by simp; omega)).trans hS0.1, (World.cell?_setCell_far _ _ _ _ (by simp; omega)).trans hS0.2⟩
  generalize (W2.setCell ⟨go', oo + i, none⟩ (.slice a2o x2o c2o)) = W2a at *
  refine hK.out _ _ hS0' (fun h => absurd h (by decide)) ?_
  clear hK K
  refine wpAnyT_take (i := 18) (v := ?_) rfl (by kernel_rfl) (by kernel_rfl) (by kernel_rfl) (fun _ _ _ h => h) (Or.inl ⟨by rfl, ?_⟩) hS0' ?_
  rotate_left
  · (intro wz hSw; (try dsimp only at hSw); go_simp; (try with_reducible rfl))
  simp only [Act.put]
  obtain ⟨az, cz, hcz, -⟩ := hst.read k (by simp; omega)
  have hfz := hst.free (oo + k)
  have hst2o := hst.store k (by simp; omega) _ _ _ _ hr1
  refine wpAnyT_one (i := 19) (by kernel_rfl) rfl (fun K hK => ?_)
  go_simp
  have hoth2o := hoth.other ⟨go', oo + k, none⟩ (.slice a1o x1o c1o) (hne) hst.apart
  have hoS2o := hoS.setCell ⟨go', oo + k, none⟩ (.slice a1o x1o c1o) (.inl (by simp))
  have hS0a : (W2a.setCell ⟨go', oo + k, none⟩ (.slice a1o x1o c1o)).cell? ⟨bx, 0, none⟩ = some (.slice (some ⟨gm, om, none⟩) n cm) ∧ (W2a.setCell ⟨go', oo + k, none⟩ (.slice a1o x1o c1o)).cell? ⟨bx, 1, none⟩ = some (.slice (some ⟨go', oo, none⟩) n co) :=
    ⟨(World.cell?_setCell_far _ _ _ _ (by simp; omega)).trans hS0'.1, (World.cell?_setCell_far _ _ _ _ (by simp; omega)).trans hS0'.2⟩
  clear hst hoth hr1 hoS hS0' hcz hfz hS0 hS1 m1o m2o r1o r2o fmo q0 q1
  generalize (W2a.setCell ⟨go', oo + k, none⟩ (.slice a1o x1o c1o)) = W3 at *
  refine hK.out _ _ hS0a (fun h => absurd h (by decide)) ?_
  clear hK K
  refine wpAnyT_done (by kernel_rfl) ?_ _
  obtain ⟨q0, q1⟩ := hS0a
  go_wp2_with fail
  go_end0
  refine ⟨rfl, ⟨by rw [← HSW.out.1]; exact hoth2o, by rw [← HSW.out.2]; exact hst2o, hne, by simp [swapL_length]; omega⟩, ?_⟩
  have e1 : Only [gm, go'] w W := hOW.mono (by simp)
  have e2 : Only [gm, go'] W W2 := hoS2m.mono (by simp)
  have e3 : Only [gm, go'] W2 W3 := hoS2o.mono (by simp)
  exact ((e1.trans e2).trans e3).drew.drew
end Go.Proofs.Ytibilabhokkhmaa
