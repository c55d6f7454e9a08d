/-
  Wire: contracts of package wire and of the reference's (chapter 9).
-/
import Derived.Test.YtgfbhclkpephnaaBase
import Derived.LoopN
import Derived.WalkMore
import Derived.ScopeJumps
namespace Go.Proofs.Ytgfbhclkpephnaa
open Go.RowKit
def badB (n : Int) : Bool := n != 1 && n != 2 && n != 4
theorem bad_any (n : Int) (w : World) : Calls Try.prog 91 #[.int .i64 n] w fun e w' => e = .returned (.bool (badB n)) ∧ w = w' := by
  by_cases h1 : n = 1
  · subst h1
    go_enter Try.func91, Try.ntmps91
    go_wp2
    all_goals (go_ret; exact ⟨rfl, rfl⟩)
  · by_cases h2 : n = 2
    · subst h2
      go_enter Try.func91, Try.ntmps91
      go_wp2
      all_goals (go_ret; exact ⟨rfl, rfl⟩)
    · go_enter Try.func91, Try.ntmps91
      go_wp2
      all_goals (go_ret; refine ⟨?_, rfl⟩; simp [badB, *])
theorem ret_str_int {l l' : List UInt8} {k : IntKind} {n n' : Int} (h : l = l') (h2 : n = n') : Ending.returned (.tuple #[.string ⟨l.toArray⟩, .int k n]) = .returned (.tuple #[Str l', .int k n']) := by rw [h, h2]
/-- n's bytes, the greatest first. -/
def be (n : Int) : Nat → List UInt8
  | 0 => []
  | k + 1 => be (n / 256) k ++ [U8 n]
/-- What bytes say. -/
def unbe (l : List UInt8) : Int := l.foldl (fun a c => a * 256 + c.toNat) 0
theorem unbe_snoc (l : List UInt8) (c : UInt8) : unbe (l ++ [c]) = unbe l * 256 + c.toNat := by simp [unbe]
theorem U8_toNat (n : Int) (h : 0 ≤ n) : ((U8 n).toNat : Int) = n % 256 := by
  unfold U8
  simp
  omega
theorem U8_mod (n : Int) (h : 0 ≤ n) : U8 (n % 256) = U8 n := by
  apply UInt8.toNat.inj
  have h1 := U8_toNat n h
  have h2 := U8_toNat (n % 256) (by omega)
  omega
theorem be_length (n : Int) (k : Nat) : (be n k).length = k := by
  induction k generalizing n with
  | zero => rfl
  | succ k ih => simp [be, ih]
theorem unbe_be (n : Int) (h : 0 ≤ n) (k : Nat) : unbe (be n k) = n % 256 ^ k := by
  induction k generalizing n with
  | zero => simp [be, unbe, Int.emod_one]
  | succ k ih =>
    rw [be, unbe_snoc, ih _ (by omega), U8_toNat n h]
    have e : (256 : Int) ^ (k + 1) = 256 * 256 ^ k := by rw [Int.pow_succ, Int.mul_comm]
    rw [e, Int.emod_def n (256 * 256 ^ k), ← Int.ediv_ediv_of_nonneg (by omega), Int.emod_def, Int.emod_def, Int.mul_assoc]
    omega
theorem be1 (n : Int) : be n 1 = [U8 n] := rfl
theorem be2 (n : Int) : be n 2 = [U8 (n / 256), U8 n] := rfl
theorem be4 (n : Int) : be n 4 = [U8 (n / 16777216), U8 (n / 65536), U8 (n / 256), U8 n] := by
  simp only [be, List.nil_append, List.cons_append]
  simp [Int.ediv_ediv_of_nonneg]
def putE (n size : Int) : Int := if badB size then 1 else if size < 4 ∧ 256 ^ size.toNat ≤ n then 2 else 0
def putS (n size : Int) : List UInt8 := if putE n size = 0 then be n size.toNat else []
set_option maxRecDepth 100000
theorem put_bad (n size : Int) (hb : badB size = true) (w : World) : Calls Try.prog 65 #[.int .u32 n, .int .i64 size] w fun e w' => e = .returned (.tuple #[Str (putS n size), .int .i64 (putE n size)]) ∧ Below w.heap.size w w' := by
  have hE : putE n size = 1 := by simp [putE, hb]
  have hS : putS n size = [] := by simp [putS, hE]
  rw [hE, hS]
  clear hE hS
  go_enter Try.func65, Try.ntmps65
  go_wp2_with (go_at_call 91; refine (bad_any _ _).mono ?_; rintro e w' ⟨rfl, rfl⟩)
  go_ret2
  exact ⟨rfl, Below.refl _ _⟩
theorem put1_ok (n : Int) (h0 : 0 ≤ n) (h1 : n < 256) (w : World) : Calls Try.prog 65 #[.int .u32 n, .int .i64 1] w fun e w' => e = .returned (.tuple #[Str (putS n 1), .int .i64 (putE n 1)]) ∧ Below w.heap.size w w' := by
  have hb : badB 1 = false := by decide
  have hE : putE n 1 = 0 := by simp [putE, hb]; omega
  have hS : putS n 1 = be n 1 := by simp [putS, hE]
  rw [hE, hS]
  have HS := Lib.hid (be1 n)
  clear hE hS
  have hd : (n / 256 != 0) = false := by simp; omega
  have hmk : ∀ w, (Instr.makeSlice 44 (.int .i64 1) (.int .i64 1)).run Try.prog w = .ok (.slice (some ⟨w.heap.size, 0, none⟩) 1 1) (w.alloc (.cells #[.int .u8 0] 5)) := fun _ => by kernel_rfl
  have hcv : ∀ (c0 : Int), (convert 44 9 (.slice (some ⟨w.heap.size, 0, none⟩) 1 1)).run Try.prog (w.alloc (.cells #[.int .u8 c0] 5)) = .ok (.string ⟨#[U8 c0]⟩) (w.alloc (.cells #[.int .u8 c0] 5)) :=
    fun c0 => run_str_new (P := Try.prog) w 44 9 5 5 1 [c0] [] Try.underlying44 Try.underlying5 Try.underlying9 (0, 0)
  go_enter Try.func65, Try.ntmps65
  go_wp2_with (go_at_call 91; refine (bad_any _ _).mono ?_; rintro e w' ⟨rfl, rfl⟩)
  refine wp_loop_rounds 2 ?_
  iterate 2 (rw [rounds_succ]; go_wp2)
  go_ret2
  refine ⟨ret_str_int ?_ rfl, (Below.refl _ _).alloc (Nat.le_refl _) _⟩
  rw [HS.out]
  try simp (disch := omega) only [U8_mod]
theorem put1_no (n : Int) (h1 : 256 ≤ n) (h2 : n < 4294967296) (w : World) : Calls Try.prog 65 #[.int .u32 n, .int .i64 1] w fun e w' => e = .returned (.tuple #[Str (putS n 1), .int .i64 (putE n 1)]) ∧ Below w.heap.size w w' := by
  have hb : badB 1 = false := by decide
  have hE : putE n 1 = 2 := by simp [putE, hb]; omega
  have hS : putS n 1 = [] := by simp [putS, hE]
  rw [hE, hS]
  clear hE hS
  have hd : (n / 256 != 0) = true := by simp; omega
  go_enter Try.func65, Try.ntmps65
  go_wp2_with (go_at_call 91; refine (bad_any _ _).mono ?_; rintro e w' ⟨rfl, rfl⟩)
  go_ret2
  exact ⟨rfl, Below.refl _ _⟩
theorem put2_ok (n : Int) (h0 : 0 ≤ n) (h1 : n < 65536) (w : World) : Calls Try.prog 65 #[.int .u32 n, .int .i64 2] w fun e w' => e = .returned (.tuple #[Str (putS n 2), .int .i64 (putE n 2)]) ∧ Below w.heap.size w w' := by
  have hb : badB 2 = false := by decide
  have hE : putE n 2 = 0 := by simp [putE, hb]; omega
  have hS : putS n 2 = be n 2 := by simp [putS, hE]
  rw [hE, hS]
  have HS := Lib.hid (be2 n)
  clear hE hS
  have hd : (n / 65536 != 0) = false := by simp; omega
  have hmk : ∀ w, (Instr.makeSlice 44 (.int .i64 2) (.int .i64 2)).run Try.prog w = .ok (.slice (some ⟨w.heap.size, 0, none⟩) 2 2) (w.alloc (.cells #[.int .u8 0, .int .u8 0] 5)) := fun _ => by kernel_rfl
  have hcv : ∀ (c0 c1 : Int), (convert 44 9 (.slice (some ⟨w.heap.size, 0, none⟩) 2 2)).run Try.prog (w.alloc (.cells #[.int .u8 c0, .int .u8 c1] 5)) = .ok (.string ⟨#[U8 c0, U8 c1]⟩) (w.alloc (.cells #[.int .u8 c0, .int .u8 c1] 5)) :=
    fun c0 c1 => run_str_new (P := Try.prog) w 44 9 5 5 2 [c0, c1] [] Try.underlying44 Try.underlying5 Try.underlying9 (0, 0)
  go_enter Try.func65, Try.ntmps65
  go_wp2_with (go_at_call 91; refine (bad_any _ _).mono ?_; rintro e w' ⟨rfl, rfl⟩)
  refine wp_loop_rounds 3 ?_
  iterate 3 (rw [rounds_succ]; go_wp2)
  go_ret2
  refine ⟨ret_str_int ?_ rfl, (Below.refl _ _).alloc (Nat.le_refl _) _⟩
  rw [HS.out]
  try simp (disch := omega) only [U8_mod]
theorem put2_no (n : Int) (h1 : 65536 ≤ n) (h2 : n < 4294967296) (w : World) : Calls Try.prog 65 #[.int .u32 n, .int .i64 2] w fun e w' => e = .returned (.tuple #[Str (putS n 2), .int .i64 (putE n 2)]) ∧ Below w.heap.size w w' := by
  have hb : badB 2 = false := by decide
  have hE : putE n 2 = 2 := by simp [putE, hb]; omega
  have hS : putS n 2 = [] := by simp [putS, hE]
  rw [hE, hS]
  clear hE hS
  have hd : (n / 65536 != 0) = true := by simp; omega
  go_enter Try.func65, Try.ntmps65
  go_wp2_with (go_at_call 91; refine (bad_any _ _).mono ?_; rintro e w' ⟨rfl, rfl⟩)
  go_ret2
  exact ⟨rfl, Below.refl _ _⟩
theorem put4_ok (n : Int) (h0 : 0 ≤ n) (h1 : n < 4294967296) (w : World) : Calls Try.prog 65 #[.int .u32 n, .int .i64 4] w fun e w' => e = .returned (.tuple #[Str (putS n 4), .int .i64 (putE n 4)]) ∧ Below w.heap.size w w' := by
  have hb : badB 4 = false := by decide
  have hE : putE n 4 = 0 := by simp [putE, hb]
  have hS : putS n 4 = be n 4 := by simp [putS, hE]
  rw [hE, hS]
  have HS := Lib.hid (be4 n)
  clear hE hS
  have hd : (n / 4294967296 != 0) = false := by simp; omega
  have hmk : ∀ w, (Instr.makeSlice 44 (.int .i64 4) (.int .i64 4)).run Try.prog w = .ok (.slice (some ⟨w.heap.size, 0, none⟩) 4 4) (w.alloc (.cells #[.int .u8 0, .int .u8 0, .int .u8 0, .int .u8 0] 5)) := fun _ => by kernel_rfl
  have hcv : ∀ (c0 c1 c2 c3 : Int), (convert 44 9 (.slice (some ⟨w.heap.size, 0, none⟩) 4 4)).run Try.prog (w.alloc (.cells #[.int .u8 c0, .int .u8 c1, .int .u8 c2, .int .u8 c3] 5)) = .ok (.string ⟨#[U8 c0, U8 c1, U8 c2, U8 c3]⟩) (w.alloc (.cells #[.int .u8 c0, .int .u8 c1, .int .u8 c2, .int .u8 c3] 5)) :=
    fun c0 c1 c2 c3 => run_str_new (P := Try.prog) w 44 9 5 5 4 [c0, c1, c2, c3] [] Try.underlying44 Try.underlying5 Try.underlying9 (0, 0)
  go_enter Try.func65, Try.ntmps65
  go_wp2_with (go_at_call 91; refine (bad_any _ _).mono ?_; rintro e w' ⟨rfl, rfl⟩)
  refine wp_loop_rounds 5 ?_
  iterate 5 (rw [rounds_succ]; go_wp2)
  go_ret2
  refine ⟨ret_str_int ?_ rfl, (Below.refl _ _).alloc (Nat.le_refl _) _⟩
  rw [HS.out]
  try simp (disch := omega) only [U8_mod]
theorem badB_no {n : Int} (h : badB n = false) : n = 1 ∨ n = 2 ∨ n = 4 := by
  unfold badB at h
  by_cases h1 : n = 1
  · exact .inl h1
  · by_cases h2 : n = 2
    · exact .inr (.inl h2)
    · simp [h1, h2] at h
      exact .inr (.inr h)
theorem put_any (n size : Int) (h0 : 0 ≤ n) (h1 : n < 4294967296) (w : World) : Calls Try.prog 65 #[.int .u32 n, .int .i64 size] w fun e w' => e = .returned (.tuple #[Str (putS n size), .int .i64 (putE n size)]) ∧ Below w.heap.size w w' := by
  cases hb : badB size
  · rcases badB_no hb with rfl | rfl | rfl
    · by_cases h : n < 256
      · exact put1_ok n h0 h w
      · exact put1_no n (by omega) h1 w
    · by_cases h : n < 65536
      · exact put2_ok n h0 h w
      · exact put2_no n (by omega) h1 w
    · exact put4_ok n h0 h1 w
  · exact put_bad n size hb w
end Go.Proofs.Ytgfbhclkpephnaa
