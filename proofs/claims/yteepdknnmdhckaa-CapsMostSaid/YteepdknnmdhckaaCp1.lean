/-
  How much there may be: Most, Within (chapter 37).
-/
import Derived.Test.YteepdknnmdhckaaConfig
import Derived.Test.YteepdknnmdhckaaTa23
import Derived.BigQuiet
namespace Go.Proofs.Yteepdknnmdhckaa
open Go Go.RowKit
set_option linter.unusedVariables false
set_option linter.unusedSimpArgs false
set_option maxRecDepth 100000
set_option maxHeartbeats 2000000
def in0 (x y : Int) : Bool := decide (0 ≤ x) && decide (x ≤ y)
/-- Are the first n of l within m? -/
def okB (l m : Nat → Int) : Nat → Bool
  | 0 => true
  | n + 1 => okB l m n && in0 (l n) (m n)
theorem okB_no {l m : Nat → Int} {k : Nat} (h : in0 (l k) (m k) = false) : ∀ n, k < n → okB l m n = false
  | 0, hk => by omega
  | n + 1, hk => by
    unfold okB
    by_cases e : k = n
    · subst e; rw [h]; simp
    · rw [okB_no h n (by omega)]; rfl
theorem okB_succ {l m : Nat → Int} {k : Nat} (h0 : okB l m k = true) (h : in0 (l k) (m k) = true) : okB l m (k + 1) = true := by
  unfold okB; rw [h0, h]; rfl
theorem within1_any (x y : Int) (w : World) : Calls Try.prog 13 #[.int .i64 x, .int .i64 y] w fun e w' => e = .returned (.bool (in0 x y)) ∧ w = w' := by
  unfold in0
  by_cases h1 : 0 ≤ x
  · by_cases h2 : x ≤ y
    · go_enter Try.func13, Try.ntmps13
      go_wp2_with fail
      go_ret
      simp [h1, h2]
    · go_enter Try.func13, Try.ntmps13
      go_wp2_with fail
      go_ret
      simp [h1, h2]
  · go_enter Try.func13, Try.ntmps13
    go_wp2_with fail
    go_ret
    simp [h1]
    try omega
theorem all6_any (b1 b2 : Nat) (l m : Nat → Int) (w : World) (h1 : ∀ i, i < 6 → w.cell? ⟨b1, i, none⟩ = some (.int .i64 (l i))) (h2 : ∀ i, i < 6 → w.cell? ⟨b2, i, none⟩ = some (.int .i64 (m i))) :
    Calls Try.prog 12 #[.slice (some ⟨b1, 0, none⟩) 6 6, .slice (some ⟨b2, 0, none⟩) 6 6, .func (.func 13) #[] #[]] w fun e w' => e = .returned (.bool (okB l m 6)) ∧ Below w.heap.size w w' := by
  have H1 := Lib.hid h1
  have H2 := Lib.hid h2
  clear h1 h2
  go_enter Try.func12, Try.ntmps12
  go_wp2_with fail
  go_loopg [10] 6 (fun gk i wr => ∃ k : Nat, 6 - k ≤ gk ∧ k ≤ 6 ∧ i = .int .i64 (k : Int) ∧ Hid (Below w.heap.size w wr ∧ okB l m k = true ∧ ∀ j b, w.cell? ⟨b, j, none⟩ = wr.cell? ⟨b, j, none⟩))
  case atStart => exact ⟨0, by omega, by omega, rfl, Lib.hid ⟨Below.refl _ _, rfl, fun _ _ => rfl⟩⟩
  case round =>
    obtain ⟨k, hkg, hk, rfl, HK⟩ := hrel
    by_cases hlt : k < 6
    · have hlt' : (k : Int) < 6 := by omega
      have hk0 : (0 : Int) ≤ (k : Int) := by omega
      have HLT := Lib.hid hlt
      have c1 : wr.cell? ⟨b1, k, none⟩ = some (.int .i64 (l k)) := by rw [← HK.out.2.2 k b1]; exact H1.out k hlt
      have c2 : wr.cell? ⟨b2, k, none⟩ = some (.int .i64 (m k)) := by rw [← HK.out.2.2 k b2]; exact H2.out k hlt
      clear hlt
      cases hin : in0 (l k) (m k) with
      | false =>
        have HIN := Lib.hid hin
        have HW : Hid (∀ w', Calls Try.prog 13 #[.int .i64 (l k), .int .i64 (m k)] w' fun e w'' => e = .returned (.bool false) ∧ w' = w'') := Lib.hid fun w' => by
          have := within1_any (l k) (m k) w'
          rw [hin] at this
          exact this
        clear hin
        go_wp2_with fail
        have HC : Hid (∀ n, (wr.drewN n).cell? ⟨b1, k, none⟩ = some (.int .i64 (l k)) ∧ (wr.drewN n).cell? ⟨b2, k, none⟩ = some (.int .i64 (m k))) := Lib.hid fun n => ⟨by simpa using c1, by simpa using c2⟩
        go_region_held3 (fun w' => (w'.cell? ⟨b1, k, none⟩ = some (.int .i64 (l k)) ∧ w'.cell? ⟨b2, k, none⟩ = some (.int .i64 (m k))) ∧ ∃ n, w' = wr.drewN n)
          (first
            | exact ⟨HC.out 1, 1, rfl⟩
            | (go_split_ands; exact ⟨⟨by assumption, by assumption⟩, by assumption⟩))
          ((first
            | (go_at_call 13; refine (HW.out _).mono ?_; rintro e w2 ⟨rfl, rfl⟩)))
        go_wp2_with fail
        go_ret
        exact ⟨by rw [okB_no HIN.out 6 HLT.out]; rfl, Below.chain (Below.refl _ wr).drew HK.out.1⟩
      | true =>
        have HIN := Lib.hid hin
        have HW : Hid (∀ w', Calls Try.prog 13 #[.int .i64 (l k), .int .i64 (m k)] w' fun e w'' => e = .returned (.bool true) ∧ w' = w'') := Lib.hid fun w' => by
          have := within1_any (l k) (m k) w'
          rw [hin] at this
          exact this
        clear hin
        go_wp2_with fail
        have HC : Hid (∀ n, (wr.drewN n).cell? ⟨b1, k, none⟩ = some (.int .i64 (l k)) ∧ (wr.drewN n).cell? ⟨b2, k, none⟩ = some (.int .i64 (m k))) := Lib.hid fun n => ⟨by simpa using c1, by simpa using c2⟩
        go_region_held3 (fun w' => (w'.cell? ⟨b1, k, none⟩ = some (.int .i64 (l k)) ∧ w'.cell? ⟨b2, k, none⟩ = some (.int .i64 (m k))) ∧ ∃ n, w' = wr.drewN n)
          (first
            | exact ⟨HC.out 1, 1, rfl⟩
            | (go_split_ands; exact ⟨⟨by assumption, by assumption⟩, by assumption⟩))
          ((first
            | (go_at_call 13; refine (HW.out _).mono ?_; rintro e w2 ⟨rfl, rfl⟩)))
        go_wp2_with fail
        go_roundg (6 - (k + 1))
        case measure => have := HLT.out; omega
        case rel => exact ⟨k + 1, Nat.le_refl _, HLT.out, by go_num, Lib.hid ⟨Below.chain (Below.refl _ wr).drew HK.out.1, okB_succ HK.out.2.1 HIN.out, fun j b => by rw [HK.out.2.2 j b]; simp⟩⟩
    · obtain rfl : k = 6 := by omega
      have hlt' : ¬ ((6 : Nat) : Int) < 6 := by omega
      clear hlt
      go_wp2_with fail
      go_ret
      exact ⟨by rw [HK.out.2.1]; rfl, HK.out.1⟩
end Go.Proofs.Yteepdknnmdhckaa
