/-
  What is to be said: numbers that go round; the closures that drop; gone, Drop, Clean, Len, New (chapter 25).
-/
import Derived.Test.YtphejbjbleeigaaCt4
namespace Go.Proofs.Ytphejbjbleeigaa
open Go Go.RowKit
set_option linter.unusedVariables false
set_option maxRecDepth 100000
set_option maxHeartbeats 1000000
/-- How far b is ahead of a. -/
def ahead (a b : Int) : Int := if (b - a) % 4294967296 < 2147483648 then (b - a) % 4294967296 else (b - a) % 4294967296 - 4294967296
theorem to_any (a b : Int) (w : World) : Calls Try.prog 146 #[.int .u32 a, .int .u32 b] w fun e w' => e = .returned (.int .i64 (ahead a b)) ∧ w' = w := by
  have h1 : wrap64 (wrap32 ((b - a) % 4294967296)) = ahead a b := by
    unfold ahead wrap64 wrap32
    split <;> omega
  have H1 := Lib.hid h1
  clear h1
  go_enter Try.func146, Try.ntmps146
  go_wp2_with fail
  go_ret
  exact ⟨by rw [← H1.out]; rfl, rfl⟩
theorem ahead_any (a b : Int) (w : World) : Calls Try.prog 113 #[.int .u32 a, .int .u32 b] w fun e w' => e = .returned (.int .i64 (ahead a b)) ∧ w' = w := by
  have hmf : ∀ (fn : Fn) (first cap : Array Value) (w : World), (Instr.makeFunc fn first cap).run Try.prog w = .ok (.func fn first cap) w := fun _ _ _ _ => rfl
  have H := Lib.hid (to_any a b w)
  go_enter Try.func113, Try.ntmps113
  go_wp2_with fail
  refine H.out.mono ?_
  rintro e w1 ⟨rfl, rfl⟩
  go_wp2_with fail
  go_ret
  exact ⟨rfl, rfl⟩
theorem less_any (a b : Int) (w : World) : Calls Try.prog 78 #[.int .u32 a, .int .u32 b] w fun e w' => e = .returned (.bool (decide (0 < ahead a b))) ∧ w' = w := by
  have H := Lib.hid (ahead_any a b w)
  generalize ahead a b = x at *
  go_enter Try.func78, Try.ntmps78
  go_wp2_with fail
  refine H.out.mono ?_
  rintro e w1 ⟨rfl, rfl⟩
  go_wp2_with fail
  go_ret
  exact ⟨by simp, rfl⟩
def dropB (st : Int) (x : Dg) : Bool := x.stream == st && x.kind != 6
theorem drop_cl (x : Dg) (st : Int) (b : Nat) (w : World) (hb : Blk w b #[.int .i64 st] 3) : Calls Try.prog 79 #[x.val, .pointer (some ⟨b, 0, none⟩)] w (RetB (.bool (dropB st x)) w) := by
  obtain ⟨xk, xs, xb, xi, xkk, xn, xl, xc, xh, xbd⟩ := x
  have hB : Below w.heap.size w (w.alloc (.cells #[.int .i64 xk, .int .i64 xs, .int .u32 xb, .int .i64 xi, .int .i64 xkk, .int .i64 xn, .int .i64 xl, .int .i64 xc, Str xh, Str xbd] 24)) := Below.chainAlloc (Below.refl _ _) _
  obtain ⟨x1, x2, x3⟩ := (hb.alloc (.cells #[.int .i64 xk, .int .i64 xs, .int .u32 xb, .int .i64 xi, .int .i64 xkk, .int .i64 xn, .int .i64 xl, .int .i64 xc, Str xh, Str xbd] 24)).facts
  have y0 := x1 0
  obtain ⟨z1, _, _⟩ := (Blk.new w #[.int .i64 xk, .int .i64 xs, .int .u32 xb, .int .i64 xi, .int .i64 xkk, .int .i64 xn, .int .i64 xl, .int .i64 xc, Str xh, Str xbd] 24).facts
  have e0 := z1 0
  have e1 := z1 1
  have HB := Lib.hid hB
  clear x1 x2 x3 z1 hB hb
  unfold dropB
  simp only
  by_cases h2 : xs = st
  · by_cases h3 : xk = 6
    · subst h2 h3
      go_enter Try.func79, Try.ntmps79
      go_wp2_with fail
      go_ret
      exact ⟨by simp, HB.out⟩
    · have h3' : (xk != 6) = true := by simpa using h3
      subst h2
      rw [h3']
      go_enter Try.func79, Try.ntmps79
      go_wp2_with fail
      go_ret
      exact ⟨by simp, HB.out⟩
  · have h2' : (xs == st) = false := by simpa using h2
    rw [h2']
    go_enter Try.func79, Try.ntmps79
    go_wp2_with fail
    go_ret
    exact ⟨by simp, HB.out⟩
def cleanB (st base : Int) (x : Dg) : Bool := x.kind == 3 && (x.stream == st && decide (0 < ahead x.block base))
theorem clean_cl (x : Dg) (st base : Int) (b b' : Nat) (w : World) (hb : Blk w b #[.int .i64 st] 3) (hb' : Blk w b' #[.int .u32 base] 22) : Calls Try.prog 77 #[x.val, .pointer (some ⟨b, 0, none⟩), .pointer (some ⟨b', 0, none⟩)] w (RetB (.bool (cleanB st base x)) w) := by
  obtain ⟨xk, xs, xb, xi, xkk, xn, xl, xc, xh, xbd⟩ := x
  have hB : Below w.heap.size w (w.alloc (.cells #[.int .i64 xk, .int .i64 xs, .int .u32 xb, .int .i64 xi, .int .i64 xkk, .int .i64 xn, .int .i64 xl, .int .i64 xc, Str xh, Str xbd] 24)) := Below.chainAlloc (Below.refl _ _) _
  obtain ⟨x1, x2, x3⟩ := (hb.alloc (.cells #[.int .i64 xk, .int .i64 xs, .int .u32 xb, .int .i64 xi, .int .i64 xkk, .int .i64 xn, .int .i64 xl, .int .i64 xc, Str xh, Str xbd] 24)).facts
  obtain ⟨x1', _, _⟩ := (hb'.alloc (.cells #[.int .i64 xk, .int .i64 xs, .int .u32 xb, .int .i64 xi, .int .i64 xkk, .int .i64 xn, .int .i64 xl, .int .i64 xc, Str xh, Str xbd] 24)).facts
  have y0 := x1 0
  have y1 := x1' 0
  obtain ⟨z1, _, _⟩ := (Blk.new w #[.int .i64 xk, .int .i64 xs, .int .u32 xb, .int .i64 xi, .int .i64 xkk, .int .i64 xn, .int .i64 xl, .int .i64 xc, Str xh, Str xbd] 24).facts
  have e0 := z1 0
  have e1 := z1 1
  have e2 := z1 2
  have HB := Lib.hid hB
  have HL := Lib.hid (fun w' => less_any xb base w')
  clear x1 x2 x3 z1 hB hb x1' hb'
  unfold cleanB
  simp only
  by_cases h2 : xk = 3
  · by_cases h3 : xs = st
    · subst h2 h3
      generalize decide (0 < ahead xb base) = r at *
      go_enter Try.func77, Try.ntmps77
      go_wp2_with fail
      refine (HL.out _).mono ?_
      rintro e w1 ⟨rfl, rfl⟩
      go_wp2_with fail
      go_ret
      exact ⟨by simp, HB.out⟩
    · have h3' : (xs == st) = false := by simpa using h3
      subst h2
      rw [h3']
      go_enter Try.func77, Try.ntmps77
      go_wp2_with fail
      go_ret
      exact ⟨by simp, HB.out⟩
  · have h2' : (xk == 3) = false := by simpa using h2
    rw [h2']
    go_enter Try.func77, Try.ntmps77
    go_wp2_with fail
    go_ret
    exact ⟨by simp, HB.out⟩
end Go.Proofs.Ytphejbjbleeigaa
