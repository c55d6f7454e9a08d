/-
  Tables of bytes: the row that is looked for: the program's contract (chapter 3).
-/
import Derived.Test.YtibilabhokkhmaaMx6
namespace Go.Proofs.Ytibilabhokkhmaa
open Go.RowKit
set_option linter.unusedVariables false
set_option maxRecDepth 100000
set_option maxHeartbeats 1000000
theorem pivN_step (M : List (List Nat)) (place k i : Nat) (h : entM M i place = 0) : pivN M place (k + 1) i = pivN M place k (i + 1) := by
  show (if entM M i place = 0 then _ else _) = _
  rw [if_pos h]
theorem pivN_hit (M : List (List Nat)) (place k i : Nat) (h : entM M i place ≠ 0) : pivN M place (k + 1) i = some i := by
  show (if entM M i place = 0 then _ else _) = _
  rw [if_neg h]
theorem entM_get (M : List (List Nat)) (i j : Nat) (hi : i < M.length) (hj : j < M[i].length) : entM M i j = M[i][j] := by
  unfold entM
  rw [getD_get M i [] hi, getD_get _ j 0 hj]
def oz : Option Nat → Int
  | none => -1
  | some i => i
theorem pivZ_eq (M : List (List Nat)) (at' place : Nat) : pivZ M at' place = oz (pivL M at' place) := by
  unfold pivZ oz
  cases pivL M at' place <;> rfl
theorem pivot_any (gm om cm go' oo co n : Nat) (M O : List (List Nat)) (at' place : Nat) (hat : at' ≤ n) (hn : n ≤ 255) (w : World) (h : OwnP w gm om go' oo M O) (hl : M.length = n) (hp : ∀ i (h : i < M.length), place < M[i].length) (hp2 : place ≤ 255) :
    Calls Try.prog 65 #[.agg #[.slice (some ⟨gm, om, none⟩) n cm, .slice (some ⟨go', oo, none⟩) n co], .int .i64 at', .int .i64 place] w fun e w' => e = .returned (.int .i64 (pivZ M at' place)) ∧ Below w.heap.size w w' := by
  have hm := h.m
  have kb := Blk.new w #[.slice (some ⟨gm, om, none⟩) n cm, .slice (some ⟨go', oo, none⟩) n co] 84
  have hB := Below.chainAlloc (Below.refl w.heap.size w) (.cells #[.slice (some ⟨gm, om, none⟩) n cm, .slice (some ⟨go', oo, none⟩) n co] 84)
  have q0 : (w.alloc (.cells #[.slice (some ⟨gm, om, none⟩) n cm, .slice (some ⟨go', oo, none⟩) n co] 84)).cell? ⟨w.heap.size, 0, none⟩ = some (.slice (some ⟨gm, om, none⟩) n cm) := kb.facts.1 0
  have HP := Lib.hid hp
  clear hp
  go_enter Try.func65, Try.ntmps65
  go_wp2_with fail
  replace hm := hm.chain hB
  clear kb
  generalize (w.alloc (.cells #[.slice (some ⟨gm, om, none⟩) n cm, .slice (some ⟨go', oo, none⟩) n co] 84)) = W at *
  have lm := hm.lt
  go_step3
  go_wp2_with fail
  go_step3
  go_wp2_with fail
  go_loop [7, 8] (fun v i => ∃ m : Nat, at' ≤ m ∧ m ≤ n ∧ i = .int .i64 m ∧ v = .int .i64 (-1) ∧ pivL M at' place = pivN M place (n - m) m) (fun _ i => n - (intOf i).toNat)
  case atStart => exact ⟨at', Nat.le_refl _, hat, rfl, rfl, by unfold pivL; rw [hl]⟩
  case round =>
    obtain ⟨m, hm1, hm2, rfl, rfl, hpv⟩ := hrel
    have HV := Lib.hid hpv
    clear hpv
    by_cases hlt : m < n
    · obtain ⟨a1, c1, m1, r1⟩ := hm.read m (by omega)
      obtain ⟨_, _, e, hc⟩ := r1.at
      cases e
      obtain ⟨g, off, rfl, hg, hck⟩ := hc place (HP.out m (by omega))
      have hpl := HP.out m (by omega)
      have hent := entM_get M m place (by omega) hpl
      clear hc r1
      by_cases hz : M[m][place] = 0
      · have hs := pivN_step M place (n - (m + 1)) m (by rw [hent]; exact hz)
        rw [show n - (m + 1) + 1 = n - m by omega] at hs
        have HS := Lib.hid (HV.out.trans hs)
        rw [hz] at hck
        clear hs hent hz
        generalize M[m].length = x1 at *
        go_wp2_with fail
        go_round
        case rel => exact ⟨m + 1, by omega, by omega, by go_num, rfl, HS.out⟩
        case measure => simp [intOf]; omega
      · have hne : ((M[m][place] : Int) != 0) = true := by simp; omega
        have hs := pivN_hit M place (n - (m + 1)) m (by rw [hent]; exact hz)
        rw [show n - (m + 1) + 1 = n - m by omega] at hs
        have hfin : pivZ M at' place = m := by rw [pivZ_eq, HV.out, hs]; rfl
        have HS := Lib.hid hfin
        clear hs hent hfin
        generalize M[m][place] = y at *
        generalize M[m].length = x1 at *
        go_wp2_with fail
        go_ret
        exact ⟨ret_int HS.out.symm, hB⟩
    · obtain rfl : m = n := by omega
      have hfin : pivZ M at' place = -1 := by rw [pivZ_eq, HV.out, Nat.sub_self]; rfl
      have HS := Lib.hid hfin
      clear hfin
      go_wp2_with fail
      go_ret
      exact ⟨ret_int HS.out.symm, hB⟩
end Go.Proofs.Ytibilabhokkhmaa
