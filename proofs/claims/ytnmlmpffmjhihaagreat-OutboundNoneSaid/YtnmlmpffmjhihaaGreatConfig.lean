/-
  Config: contracts of config.in, Block, Check, Plain and of the reference's.
-/
import Derived.Test.YtnmlmpffmjhihaaGreatMA
namespace Go.Proofs.YtnmlmpffmjhihaaGreat
open Go.RowKit
def inB (n a b : Int) : Bool := decide (a ≤ n) && decide (n ≤ b)
theorem in_any (n a b : Int) (w : World) : Calls Tryz.prog 70 #[.int .i64 n, .int .i64 a, .int .i64 b] w fun e w' => e = .returned (.bool (inB n a b)) ∧ w = w' := by
  go_enter Tryz.func70, Tryz.ntmps70
  go_wp2
  all_goals (go_ret; refine ⟨?_, rfl⟩; simp [inB, *]; try omega)
def blockV (k s : Int) : Int := if inB k 1 32 && inB s 1 1024 then k * s else 0
theorem blockV_no (k s : Int) (h : inB k 1 32 = false ∨ inB s 1 1024 = false) : blockV k s = 0 := by unfold blockV; rcases h with h | h <;> simp [h]
theorem blockV_yes (k s : Int) (h : inB k 1 32 = true) (h2 : inB s 1 1024 = true) : blockV k s = k * s := by unfold blockV; simp [h, h2]
theorem inB_iff (n a b : Int) : inB n a b = true ↔ a ≤ n ∧ n ≤ b := by simp [inB]
theorem blockV_range (k s : Int) : 0 ≤ blockV k s ∧ blockV k s ≤ 32768 := by
  unfold blockV
  split
  · rename_i h
    simp only [Bool.and_eq_true, inB_iff] at h
    obtain ⟨⟨a, b⟩, c, d⟩ := h
    have h1 := Int.mul_le_mul b d (by omega) (by omega)
    have h2 := Int.mul_nonneg (show 0 ≤ k by omega) (show 0 ≤ s by omega)
    omega
  · omega
theorem wrap_mul (k s : Int) (h : inB k 1 32 = true) (h2 : inB s 1 1024 = true) : IntKind.i64.wrap (k * s) = k * s := by
  have := blockV_range k s
  rw [blockV_yes k s h h2] at this
  exact IntWalk.i64_in _ (by omega) 
set_option maxHeartbeats 400000
theorem block_any (k r s wi bu q qu t wo ws ti : Int) (w : World) : Calls Tryz.prog 54 #[.agg #[.int .i64 k, .int .i64 r, .int .i64 s, .int .i64 wi, .int .i64 bu, .int .i64 q, .int .i64 qu, .int .i64 t, .int .i64 wo, .int .i64 ws, .int .i64 ti]] w fun e w' => e = .returned (.int .i64 (blockV k s)) ∧ Below w.heap.size w w' := by
  cases h1 : inB k 1 32
  · go_enter Tryz.func54, Tryz.ntmps54
    go_wp2_with (go_at_call 70; refine (in_any _ _ _ _).mono ?_; rintro e w' ⟨rfl, rfl⟩)
    go_ret
    refine ⟨ret_int (blockV_no _ _ (.inl h1)).symm, (Below.refl _ _).alloc (Nat.le_refl _) _⟩
  · cases h2 : inB s 1 1024
    · go_enter Tryz.func54, Tryz.ntmps54
      go_wp2_with (go_at_call 70; refine (in_any _ _ _ _).mono ?_; rintro e w' ⟨rfl, rfl⟩)
      go_ret
      refine ⟨ret_int (blockV_no _ _ (.inr h2)).symm, (Below.refl _ _).alloc (Nat.le_refl _) _⟩
    · have hw := wrap_mul k s h1 h2
      have hv := Lib.hid (blockV_yes k s h1 h2)
      go_enter Tryz.func54, Tryz.ntmps54
      go_wp2_with (go_at_call 70; refine (in_any _ _ _ _).mono ?_; rintro e w' ⟨rfl, rfl⟩)
      go_ret
      refine ⟨ret_int (hv.out).symm, (Below.refl _ _).alloc (Nat.le_refl _) _⟩

def ckA (k r wi : Int) : Bool := inB r 0 (255 - k) && inB wi 1 64
def ckB (b bu q : Int) : Bool := inB bu b 1048576 && inB q b 1048576
def ckC (qu t wo : Int) : Bool := inB qu 1 65536 && inB t 1 65536 && inB wo 1 4096
def ckD (ws ti : Int) : Bool := inB ws 1 64 && inB ti 1 1048576
def chkB (k r s wi bu q qu t wo ws ti : Int) : Bool := inB k 1 32 && inB s 1 1024 && ckA k r wi && ckB (blockV k s) bu q && ckC qu t wo && ckD ws ti
def chkV (k r s wi bu q qu t wo ws ti : Int) : Int := if chkB k r s wi bu q qu t wo ws ti then 0 else 2
theorem blockV_ne (k s : Int) (h : ¬ blockV k s = 0) : inB k 1 32 = true ∧ inB s 1 1024 = true := by
  unfold blockV at h
  split at h
  · rename_i h1; rw [Bool.and_eq_true] at h1; exact h1
  · exact absurd rfl h
theorem chkV_zero (k r s wi bu q qu t wo ws ti : Int) (h : blockV k s = 0) : chkV k r s wi bu q qu t wo ws ti = 2 := by
  unfold chkV chkB
  by_cases h1 : inB k 1 32 = true
  · by_cases h2 : inB s 1 1024 = true
    · rw [blockV_yes k s h1 h2] at h
      rw [inB_iff] at h1 h2
      have := Int.mul_pos (show 0 < k by omega) (show 0 < s by omega)
      omega
    · simp [h2]
  · simp [h1]
theorem check_zero (k r s wi bu q qu t wo ws ti : Int) (h0 : (blockV k s == 0) = true) (w : World) : Calls Tryz.prog 52 #[.agg #[.int .i64 k, .int .i64 r, .int .i64 s, .int .i64 wi, .int .i64 bu, .int .i64 q, .int .i64 qu, .int .i64 t, .int .i64 wo, .int .i64 ws, .int .i64 ti]] w fun e w' => e = .returned (.int .i64 2) ∧ Below w.heap.size w w' := by
  have h0' : blockV k s = 0 := by simpa using h0
  go_enter Tryz.func52, Tryz.ntmps52
  go_wp2_with fail
  refine (block_any k r s wi bu q qu t wo ws ti _).mono ?_
  rintro e w1 ⟨rfl, hb1⟩
  rw [h0']
  clear h0' h0
  obtain ⟨hc, hf⟩ := bcell hb1
  go_wp2_with fail
  all_goals
    go_ret
    exact ⟨rfl, ((Below.refl _ _).alloc (Nat.le_refl _) _).trans (hb1.mono (by simp))⟩
theorem check_some (k r s wi bu q qu t wo ws ti : Int) (h0 : (blockV k s == 0) = false) (w : World) : Calls Tryz.prog 52 #[.agg #[.int .i64 k, .int .i64 r, .int .i64 s, .int .i64 wi, .int .i64 bu, .int .i64 q, .int .i64 qu, .int .i64 t, .int .i64 wo, .int .i64 ws, .int .i64 ti]] w fun e w' => e = .returned (.int .i64 (chkV k r s wi bu q qu t wo ws ti)) ∧ Below w.heap.size w w' := by
  have hb := blockV_ne k s (by simpa using h0)
  obtain ⟨h1, h2⟩ := hb
  have H1 := Lib.hid h1
  have H2 := Lib.hid h2
  rw [inB_iff] at h1 h2
  obtain ⟨hk1, hk2⟩ := h1
  obtain ⟨hs1, hs2⟩ := h2
  have hk0 : (k == 0) = false := by simp; omega
  go_enter Tryz.func52, Tryz.ntmps52
  go_wp2_with fail
  refine (block_any k r s wi bu q qu t wo ws ti _).mono ?_
  rintro e w1 ⟨rfl, hb1⟩
  obtain ⟨hc, hf⟩ := bcell hb1
  go_wp2_with (go_at_call 70; refine (in_any _ _ _ _).mono ?_; rintro e w' ⟨rfl, rfl⟩)
  all_goals
    go_ret
    refine ⟨ret_int ?_, ((Below.refl _ _).alloc (Nat.le_refl _) _).trans (hb1.mono (by simp))⟩
    clear hc hf hb1
    simp_all [chkV, chkB, ckA, ckB, ckC, ckD, H1.out, H2.out]
theorem check_any (k r s wi bu q qu t wo ws ti : Int) (w : World) : Calls Tryz.prog 52 #[.agg #[.int .i64 k, .int .i64 r, .int .i64 s, .int .i64 wi, .int .i64 bu, .int .i64 q, .int .i64 qu, .int .i64 t, .int .i64 wo, .int .i64 ws, .int .i64 ti]] w fun e w' => e = .returned (.int .i64 (chkV k r s wi bu q qu t wo ws ti)) ∧ Below w.heap.size w w' := by
  by_cases h : blockV k s = 0
  · rw [chkV_zero _ _ _ _ _ _ _ _ _ _ _ h]
    exact check_zero k r s wi bu q qu t wo ws ti (by simpa using h) w
  · exact check_some k r s wi bu q qu t wo ws ti (by simpa using h) w
theorem rplain_any (w : World) : Calls Tryz.prog 30 #[] w fun e w' => e = .returned (.agg #[.int .i64 4, .int .i64 2, .int .i64 16, .int .i64 4, .int .i64 256, .int .i64 256, .int .i64 64, .int .i64 4096, .int .i64 16, .int .i64 2, .int .i64 8]) ∧ Below w.heap.size w w' := by
  go_enter Tryz.func30, Tryz.ntmps30
  go_wp2
  exact bodyPost_ret (v := .agg #[.int .i64 4, .int .i64 2, .int .i64 16, .int .i64 4, .int .i64 256, .int .i64 256, .int .i64 64, .int .i64 4096, .int .i64 16, .int .i64 2, .int .i64 8]) (by simp [results, Tryz.results30, go_sem]) rfl ⟨rfl, (Below.refl _ _).alloc (Nat.le_refl _) _⟩
end Go.Proofs.YtnmlmpffmjhihaaGreat
