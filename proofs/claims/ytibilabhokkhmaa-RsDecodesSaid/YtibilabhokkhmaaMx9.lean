/-
  Tables of bytes: a table is made plain: plain, and the program's contract (chapter 3).
-/
import Derived.Test.YtibilabhokkhmaaMx8
namespace Go.Proofs.Ytibilabhokkhmaa
open Go.RowKit
set_option linter.unusedVariables false
set_option maxRecDepth 100000
set_option maxHeartbeats 2000000
abbrev Tab := List (List Nat)
def stepP (s : Nat × (Tab × Tab)) (place : Nat) : Nat × (Tab × Tab) :=
  if s.1 = s.2.1.length then s else match pivL s.2.1 s.1 place with
    | none => s
    | some i => (s.1 + 1, clearL s.1 place (swapL s.2.1 s.1 i) (swapL s.2.2 s.1 i))
def redSo (M O : Tab) (p : Nat) : Nat × (Tab × Tab) := (List.range p).foldl stepP (0, (M, O))
theorem redSo_succ (M O : Tab) (p : Nat) : redSo M O (p + 1) = stepP (redSo M O p) p := by
  unfold redSo
  rw [List.range_succ, List.foldl_append]
  rfl
theorem stepP_full {s : Nat × (Tab × Tab)} (h : s.1 = s.2.1.length) (p : Nat) : stepP s p = s := by unfold stepP; rw [if_pos h]
theorem stepP_none {s : Nat × (Tab × Tab)} (h : s.1 ≠ s.2.1.length) (p : Nat) (hp : pivL s.2.1 s.1 p = none) : stepP s p = s := by unfold stepP; rw [if_neg h, hp]
theorem stepP_some {s : Nat × (Tab × Tab)} (h : s.1 ≠ s.2.1.length) (p i : Nat) (hp : pivL s.2.1 s.1 p = some i) : stepP s p = (s.1 + 1, clearL s.1 p (swapL s.2.1 s.1 i) (swapL s.2.2 s.1 i)) := by unfold stepP; rw [if_neg h, hp]
theorem redSo_full {M O : Tab} {p : Nat} (h : (redSo M O p).1 = (redSo M O p).2.1.length) : ∀ k, redSo M O (p + k) = redSo M O p
  | 0 => rfl
  | k + 1 => by
    rw [← Nat.add_assoc, redSo_succ, redSo_full h k]
    exact stepP_full h _
theorem pivN_spec (M : Tab) (place : Nat) : ∀ k i j, pivN M place k i = some j → i ≤ j ∧ j < i + k ∧ entM M j place ≠ 0
  | 0, i, j, h => by cases h
  | k + 1, i, j, h => by
    by_cases hz : entM M i place = 0
    · rw [pivN_step M place k i hz] at h
      have := pivN_spec M place k (i + 1) j h
      exact ⟨by omega, by omega, this.2.2⟩
    · rw [pivN_hit M place k i hz] at h
      cases h
      exact ⟨Nat.le_refl _, by omega, hz⟩
theorem pivL_spec {M : Tab} {a place j : Nat} (h : pivL M a place = some j) : a ≤ j ∧ j < M.length ∧ entM M j place ≠ 0 := by
  unfold pivL at h
  have := pivN_spec M place _ a j h
  refine ⟨this.1, ?_, this.2.2⟩
  have h1 := this.1
  have h2 := this.2.1
  by_cases hh : a ≤ M.length
  · omega
  · rw [Nat.sub_eq_zero_of_le (by omega)] at h
    cases h
theorem swapL_wide {R : Tab} {x i k : Nat} (h : Wide R x) (hi : i < R.length) (hk : k < R.length) : Wide (swapL R i k) x := by
  unfold swapL
  rw [getD_get R k _ hk, getD_get R i _ hi]
  exact (h.set (h k hk)).set (h i hi)
theorem entM_swap (M : Tab) (a i place : Nat) (ha : a < M.length) (hi : i < M.length) : entM (swapL M a i) a place = entM M i place := by
  unfold entM swapL
  rw [getD_get M i _ hi, getD_get M a _ ha]
  congr 1
  rw [getD_get _ a _ (by simpa using ha)]
  by_cases e : i = a
  · subst e; simp
  · rw [List.getElem_set_ne e]; simp
theorem stepP_inv {s : Nat × (Tab × Tab)} {p x y n : Nat} (h1 : s.2.1.length = n) (h2 : s.2.2.length = n) (ha : s.1 ≤ n) (hx : Wide s.2.1 x) (hy : Wide s.2.2 y) :
    (stepP s p).2.1.length = n ∧ (stepP s p).2.2.length = n ∧ (stepP s p).1 ≤ n ∧ Wide (stepP s p).2.1 x ∧ Wide (stepP s p).2.2 y := by
  by_cases hf : s.1 = s.2.1.length
  · rw [stepP_full hf]; exact ⟨h1, h2, ha, hx, hy⟩
  · cases hp : pivL s.2.1 s.1 p with
    | none => rw [stepP_none hf p hp]; exact ⟨h1, h2, ha, hx, hy⟩
    | some i =>
      rw [stepP_some hf p i hp]
      have hs := pivL_spec hp
      have l1 : (swapL s.2.1 s.1 i).length = n := by rw [swapL_length, h1]
      have l2 : (swapL s.2.2 s.1 i).length = n := by rw [swapL_length, h2]
      have w1 := swapL_wide (i := s.1) (k := i) hx (by omega) (by omega)
      have w2 := swapL_wide (i := s.1) (k := i) hy (by omega) (by omega)
      have c1 := clearSo_len s.1 p (swapL s.2.1 s.1 i) (swapL s.2.2 s.1 i) (swapL s.2.1 s.1 i).length
      have c2 := clearSo_wide (row := s.1) (place := p) w1 w2 (by omega) (by omega) (swapL s.2.1 s.1 i).length (Nat.le_refl _)
      exact ⟨c1.1.trans l1, c1.2.trans l2, by show s.1 + 1 ≤ n; omega, c2.1, c2.2⟩
theorem redSo_inv {M O : Tab} {x y n : Nat} (h1 : M.length = n) (h2 : O.length = n) (hx : Wide M x) (hy : Wide O y) : ∀ p,
    (redSo M O p).2.1.length = n ∧ (redSo M O p).2.2.length = n ∧ (redSo M O p).1 ≤ n ∧ Wide (redSo M O p).2.1 x ∧ Wide (redSo M O p).2.2 y
  | 0 => ⟨h1, h2, Nat.zero_le _, hx, hy⟩
  | p + 1 => by
    rw [redSo_succ]
    have h := redSo_inv h1 h2 hx hy p
    exact stepP_inv h.1 h.2.1 h.2.2.1 h.2.2.2.1 h.2.2.2.2
theorem reduce_any (gm om cm go' oo co n wm wo : Nat) (M O : Tab) (hn0 : 1 ≤ n) (hn : n ≤ 255) (w : World) (h : OwnP w gm om go' oo M O) (hl : M.length = n) (hM : Wide M wm) (hO : Wide O wo) (hwm : wm ≤ 255) (hwo : wo ≤ 255) :
    Calls Try.prog 50 #[.agg #[.slice (some ⟨gm, om, none⟩) n cm, .slice (some ⟨go', oo, none⟩) n co]] w fun e w' => e = .returned (.int .i64 ((redSo M O wm).1 : Nat)) ∧ OwnP w' gm om go' oo (redSo M O wm).2.1 (redSo M O wm).2.2 ∧ Only [gm, go'] w w' := by
  have lm := h.m.lt
  have lo := h.o.lt
  have hne := h.ne
  have hlo : O.length = n := by have := h.len; omega
  have kb := Blk.new w #[.slice (some ⟨gm, om, none⟩) n cm, .slice (some ⟨go', oo, none⟩) n co] 84
  have hB := Below.chainAlloc (Below.refl w.heap.size w) (.cells #[.slice (some ⟨gm, om, none⟩) n cm, .slice (some ⟨go', oo, none⟩) n co] 84)
  have q0 : (w.alloc (.cells #[.slice (some ⟨gm, om, none⟩) n cm, .slice (some ⟨go', oo, none⟩) n co] 84)).cell? ⟨w.heap.size, 0, none⟩ = some (.slice (some ⟨gm, om, none⟩) n cm) := kb.facts.1 0
  have q1 : (w.alloc (.cells #[.slice (some ⟨gm, om, none⟩) n cm, .slice (some ⟨go', oo, none⟩) n co] 84)).cell? ⟨w.heap.size, 1, none⟩ = some (.slice (some ⟨go', oo, none⟩) n co) := kb.facts.1 1
  obtain ⟨a0, c0, m0, -⟩ := h.m.read 0 (by omega)
  replace m0 := (hB.cell (p := ⟨gm, om + 0, none⟩) lm).trans m0
  rw [Nat.add_zero, hM 0 (by omega)] at m0
  have HINV := Lib.hid (fun p => redSo_inv hl hlo hM hO p)
  go_enter Try.func50, Try.ntmps50
  go_wp2_with fail
  have hp := h.chain hB
  have hOW := (Only.of_below (S := []) hB).mono (S' := [gm, go']) (by simp)
  have kB : Blk (w.alloc (.cells #[.slice (some ⟨gm, om, none⟩) n cm, .slice (some ⟨go', oo, none⟩) n co] 84)) w.heap.size #[.slice (some ⟨gm, om, none⟩) n cm, .slice (some ⟨go', oo, none⟩) n co] 84 := kb
  clear h kb hB m0 q0 q1
  generalize (w.alloc (.cells #[.slice (some ⟨gm, om, none⟩) n cm, .slice (some ⟨go', oo, none⟩) n co] 84)) = W at *
  generalize hbx : w.heap.size = bx at *
  have hmbx : bx ∉ [gm, go'] := by simp; omega
  clear hbx
  go_loopw [3, 4, 5, 11] (fun a _ _ i wr => ∃ p : Nat, p ≤ wm ∧ i = .int .i64 p ∧ a = .int .i64 ((redSo M O p).1 : Nat) ∧ OwnP wr gm om go' oo (redSo M O p).2.1 (redSo M O p).2.2 ∧ Only [gm, go'] w wr ∧ Blk wr bx #[.slice (some ⟨gm, om, none⟩) n cm, .slice (some ⟨go', oo, none⟩) n co] 84) (fun _ _ _ i _ => wm - (intOf i).toNat)
  case atStart => exact ⟨0, by omega, rfl, rfl, hp, hOW, kB⟩
  case round =>
    clear hp hOW kB
    obtain ⟨p, hpw, rfl, rfl, hP, hO', hk⟩ := hrel
    have hinv := HINV.out p
    have HSTEP := Lib.hid (redSo_succ M O p)
    have HFULL := Lib.hid (redSo_full (M := M) (O := O) (p := p))
    have q0 : wr.cell? ⟨bx, 0, none⟩ = some (.slice (some ⟨gm, om, none⟩) n cm) := hk.facts.1 0
    have q1 : wr.cell? ⟨bx, 1, none⟩ = some (.slice (some ⟨go', oo, none⟩) n co) := hk.facts.1 1
    obtain ⟨i1, i2, i3, i4, i5⟩ := hinv
    by_cases hlt : p < wm
    · by_cases hfull : (redSo M O p).1 = n
      · have hfin : redSo M O wm = redSo M O p := by
          have := HFULL.out (by rw [i1]; exact hfull) (wm - p)
          rwa [show p + (wm - p) = wm by omega] at this
        have HFIN := Lib.hid hfin
        have heq : (((redSo M O p).1 : Int) == (n : Int)) = true := by simp; omega
        clear hfin hfull HSTEP HFULL
        generalize redSo M O p = s at *
        go_wp2_with fail
        go_ret
        rw [HFIN.out]
        exact ⟨rfl, hP, hO'⟩
      · have heq : (((redSo M O p).1 : Int) == (n : Int)) = false := by simp; omega
        have hnf : (redSo M O p).1 ≠ (redSo M O p).2.1.length := by rw [i1]; exact hfull
        have hpz := pivZ_eq (redSo M O p).2.1 (redSo M O p).1 p
        have hpiv := fun wx h => pivot_any gm om cm go' oo co n (redSo M O p).2.1 (redSo M O p).2.2 (redSo M O p).1 p i3 hn wx h i1 (fun i hi => by rw [i4 i hi]; exact hlt) (by omega)
        have HPIV := Lib.hid hpiv
        cases hpc : pivL (redSo M O p).2.1 (redSo M O p).1 p with
        | none =>
          rw [hpc] at hpz
          have hst := HSTEP.out.trans (stepP_none hnf p hpc)
          have HST := Lib.hid hst
          have HZ : Hid (pivZ (redSo M O p).2.1 (redSo M O p).1 p = -1) := hpz
          clear hst hpz hpc hnf hpiv HSTEP HFULL hfull
          generalize redSo M O p = s at *
          go_wp2_with fail
          refine (HPIV.out _ hP).mono ?_
          rw [HZ.out]
          rintro x w2 ⟨rfl, hb2⟩
          replace hP := hP.chain hb2
          replace hO' := hO'.trans ((Only.of_below (S := []) hb2).mono (S' := [gm, go']) (by simp))
          replace hk := hk.below hb2 hk.lt
          clear hb2 q0 q1 HPIV
          go_wp2_with fail
          go_roundw
          case rel => exact ⟨p + 1, by omega, by go_num, by rw [HST.out], by rw [HST.out]; exact hP, hO', hk⟩
          case measure => simp [intOf]; omega
        | some i =>
          rw [hpc] at hpz
          have hsp := pivL_spec hpc
          have hst := HSTEP.out.trans (stepP_some hnf p i hpc)
          have HST := Lib.hid hst
          have HZ : Hid (pivZ (redSo M O p).2.1 (redSo M O p).1 p = (i : Int)) := hpz
          obtain ⟨hs1, hs2, hs3⟩ := hsp
          have hin : i < n := by omega
          have han : (redSo M O p).1 < n := by omega
          have l1 : (swapL (redSo M O p).2.1 (redSo M O p).1 i).length = n := by rw [swapL_length, i1]
          have w1 := swapL_wide (i := (redSo M O p).1) (k := i) i4 (by omega) (by omega)
          have w2 := swapL_wide (i := (redSo M O p).1) (k := i) i5 (by omega) (by omega)
          have hnz : entM (swapL (redSo M O p).2.1 (redSo M O p).1 i) (redSo M O p).1 p ≠ 0 := by rw [entM_swap _ _ _ _ (by omega) (by omega)]; exact hs3
          have hsw := fun wx h => swap_any gm om cm go' oo co n (redSo M O p).2.1 (redSo M O p).2.2 (redSo M O p).1 i han hin hn wx h i1
          have hcl := fun wx h => clear_any gm om cm go' oo co n wm wo (swapL (redSo M O p).2.1 (redSo M O p).1 i) (swapL (redSo M O p).2.2 (redSo M O p).1 i) (redSo M O p).1 p han hn wx h l1 w1 w2 hlt hwm hwo hnz
          have HSW := Lib.hid hsw
          have HCL := Lib.hid hcl
          have hne1 : ((i : Int) != -1) = true := by simp
          clear hst hpz hpc hnf hpiv HSTEP HFULL hfull hsw hcl hs3 l1 w1 w2 hnz
          generalize redSo M O p = s at *
          go_wp2_with fail
          refine (HPIV.out _ hP).mono ?_
          rw [HZ.out]
          rintro x w2 ⟨rfl, hb2⟩
          replace hP := hP.chain hb2
          replace hO' := hO'.trans ((Only.of_below (S := []) hb2).mono (S' := [gm, go']) (by simp))
          replace hk := hk.below hb2 hk.lt
          clear hb2 q0 q1 HPIV
          have q0 : w2.cell? ⟨bx, 0, none⟩ = some (.slice (some ⟨gm, om, none⟩) n cm) := hk.facts.1 0
          have q1 : w2.cell? ⟨bx, 1, none⟩ = some (.slice (some ⟨go', oo, none⟩) n co) := hk.facts.1 1
          go_wp2_with fail
          refine (HSW.out _ hP).mono ?_
          rintro x w3 ⟨rfl, hP3, ho3⟩
          replace hO' := hO'.trans ho3
          replace hk := hk.only ho3 hmbx
          clear q0 q1 ho3 hP HSW
          have q0 : w3.cell? ⟨bx, 0, none⟩ = some (.slice (some ⟨gm, om, none⟩) n cm) := hk.facts.1 0
          have q1 : w3.cell? ⟨bx, 1, none⟩ = some (.slice (some ⟨go', oo, none⟩) n co) := hk.facts.1 1
          go_wp2_with fail
          refine (HCL.out _ hP3).mono ?_
          rintro x w4 ⟨rfl, hP4, ho4⟩
          replace hO' := hO'.trans ho4
          replace hk := hk.only ho4 hmbx
          clear q0 q1 ho4 hP3 HCL
          go_wp2_with fail
          go_roundw
          case rel => exact ⟨p + 1, by omega, by go_num, by rw [HST.out]; go_num, by rw [HST.out]; exact hP4, hO', hk⟩
          case measure => simp [intOf]; omega
    · obtain rfl : p = wm := by omega
      go_wp2_with fail
      go_ret
      exact ⟨rfl, hP, hO'⟩
end Go.Proofs.Ytibilabhokkhmaa
