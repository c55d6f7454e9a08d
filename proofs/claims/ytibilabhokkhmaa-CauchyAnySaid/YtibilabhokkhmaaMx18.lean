/-
  Tables of bytes: whether one is not too great: contract (the laws of layer 3).
-/
import Derived.Test.YtibilabhokkhmaaMx17
namespace Go.Proofs.Ytibilabhokkhmaa
open Go.RowKit
set_option linter.unusedVariables false
set_option maxRecDepth 100000
set_option maxHeartbeats 1000000
def fewL (M : Tab) (most : Nat) : Bool := decide (M.length ≤ most) && M.all fun r => decide (r.length ≤ most)
theorem fewL_true {M : Tab} {most : Nat} (h1 : M.length ≤ most) (h2 : ∀ i (h : i < M.length), M[i].length ≤ most) : fewL M most = true := by
  unfold fewL
  simp only [Bool.and_eq_true, decide_eq_true_eq, List.all_eq_true]
  refine ⟨h1, fun r hr => ?_⟩
  obtain ⟨i, hi, rfl⟩ := List.getElem_of_mem hr
  exact h2 i hi
theorem fewL_row {M : Tab} {most i : Nat} (h : i < M.length) (h2 : most < M[i].length) : fewL M most = false := by
  cases he : fewL M most with
  | false => rfl
  | true =>
    unfold fewL at he
    simp only [Bool.and_eq_true, decide_eq_true_eq, List.all_eq_true] at he
    have := he.2 M[i] (by simp)
    omega
theorem fewL_len {M : Tab} {most : Nat} (h : most < M.length) : fewL M most = false := by
  unfold fewL
  rw [decide_eq_false (by omega)]
  rfl
theorem few_any (B : Nat) (v : Value) (M : Tab) (most : Nat) (w : World) (h : MatAt B w v M) : Calls Try.prog 21 #[v, .int .i64 most] w fun e w' => e = .returned (.bool (fewL M most)) ∧ w = w' := by
  obtain ⟨a, cap, rfl, hm, hc⟩ := h.at
  have HC := Lib.hid hc
  clear hc h
  by_cases hl : most < M.length
  · have HF := Lib.hid (fewL_len hl)
    have hl' : (most : Int) < (M.length : Int) := by omega
    go_enter Try.func21, Try.ntmps21
    go_wp2_with fail
    go_ret
    exact ⟨by rw [HF.out]; rfl, rfl⟩
  · have hl' : ¬ (most : Int) < (M.length : Int) := by omega
    have HL : Hid (M.length ≤ most) := Nat.le_of_not_lt hl
    go_enter Try.func21, Try.ntmps21
    go_wp2_with fail
    go_loopg [5] M.length (fun gk i wx => ∃ k : Nat, k ≤ M.length ∧ M.length ≤ k + gk ∧ i = .int .i64 k ∧ (∀ i (h : i < M.length), i < k → M[i].length ≤ most) ∧ w = wx)
    case atStart => exact ⟨0, by omega, by omega, rfl, fun i h h' => by omega, rfl⟩
    case round =>
      obtain ⟨k, hk, hgk, rfl, hall, rfl⟩ := hrel
      have HA := Lib.hid hall
      clear hall
      by_cases hlt : k < M.length
      · obtain ⟨g, off, u, rfl, hg, hck, hru⟩ := HC.out k hlt
        obtain ⟨au, cu, rfl, -⟩ := hru.at
        have hmx := hru.max
        by_cases hr : most < M[k].length
        · have HF := Lib.hid (fewL_row hlt hr)
          clear hru
          generalize M[k].length = x at *
          go_wp2_with fail
          go_ret
          exact ⟨by rw [HF.out]; rfl, rfl⟩
        · have HA2 : Hid (∀ i (h : i < M.length), i < k + 1 → M[i].length ≤ most) := fun i h h' => by
            by_cases e : i = k
            · subst e; omega
            · exact HA.out i h (by omega)
          clear hru
          generalize M[k].length = x at *
          go_wp2_with fail
          go_roundg (M.length - (k + 1))
          case measure => omega
          case rel => exact ⟨k + 1, by omega, by omega, by go_num, HA2.out, rfl⟩
      · obtain rfl : k = M.length := by omega
        have HF := Lib.hid (fewL_true HL.out (fun i h => HA.out i h h))
        go_wp2_with fail
        go_ret
        exact ⟨by rw [HF.out]; rfl, rfl⟩
end Go.Proofs.Ytibilabhokkhmaa
