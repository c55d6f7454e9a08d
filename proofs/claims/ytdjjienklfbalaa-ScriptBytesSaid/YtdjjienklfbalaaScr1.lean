/-
  Scripts: numbers; whether a call may be: contracts (chapter 33).
-/
import Derived.Test.YtdjjienklfbalaaScrP
import Derived.Test.YtdjjienklfbalaaBld
import Derived.Deep.RegionHeld3
namespace Go.Proofs.Ytdjjienklfbalaa
open Go.RowKit
set_option linter.unusedVariables false
set_option maxRecDepth 100000
set_option maxHeartbeats 1000000
def RetB (v : Value) (w : World) (e : Ending) (w' : World) : Prop := e = .returned v ∧ Below w.heap.size w w'
theorem ret_bool {a b : Bool} (h : a = b) : Ending.returned (.bool a) = .returned (.bool b) := by rw [h]
theorem putS_ok (z : Int) (s : Nat) (hs : s = 1 ∨ s = 2 ∨ s = 4) (h0 : 0 ≤ z) (h1 : z < 256 ^ s) : putS z s = be z s := by
  rcases hs with rfl | rfl | rfl
  · have hE : putE z (1 : Nat) = 0 := by
      unfold putE
      rw [if_neg (by decide), if_neg (by intro h; have h2 := h.2; simp at h2; omega)]
    unfold putS; rw [if_pos hE]; rfl
  · have hE : putE z (2 : Nat) = 0 := by
      unfold putE
      rw [if_neg (by decide), if_neg (by intro h; have h2 := h.2; simp at h2; omega)]
    unfold putS; rw [if_pos hE]; rfl
  · have hE : putE z (4 : Nat) = 0 := by
      unfold putE
      rw [if_neg (by decide), if_neg (by intro h; have h2 := h.1; simp at h2)]
    unfold putS; rw [if_pos hE]; rfl
theorem num_s (z size : Int) (h0 : 0 ≤ z) (h1 : z < 4294967296) (w : World) : Calls Try.prog 87 #[.int .i64 z, .int .i64 size] w (RetB (Str (putS z size)) w) := by
  have HP := Lib.hid (fun wx => put_any z size h0 h1 wx)
  go_enter Try.func87, Try.ntmps87
  go_wp2_with fail
  refine (HP.out _).mono ?_
  rintro e w1 ⟨rfl, hb⟩
  generalize putS z size = s at *
  generalize putE z size = y at *
  go_wp2_with fail
  go_ret
  exact ⟨rfl, hb⟩
theorem callB_eq (ck cs cn : Int) (cb : List UInt8) : callB ck cs cn cb = (decide (1 ≤ ck) && decide (ck ≤ 6) && decide (0 ≤ cs) && decide (cs ≤ 255) && decide (0 ≤ cn) && decide (cn ≤ 65535) && decide ((cb.length : Int) ≤ 2048) && (decide (cb = []) || ck == 2)) := by
  unfold callB
  have : decide (cb.length ≤ 2048) = decide ((cb.length : Int) ≤ 2048) := by
    by_cases h : cb.length ≤ 2048
    · rw [decide_eq_true h, decide_eq_true (show (cb.length : Int) ≤ 2048 by omega)]
    · rw [decide_eq_false h, decide_eq_false (show ¬ (cb.length : Int) ≤ 2048 by omega)]
  rw [this]
theorem calls_s (ck cs cn : Int) (cb : List UInt8) (w : World) : Calls Try.prog 129 #[.agg #[.int .i64 ck, .int .i64 cs, .int .i64 cn, Str cb]] w (RetB (.bool (callB ck cs cn cb)) w) := by
  have HZ := Lib.hid (callB_eq ck cs cn cb)
  generalize callB ck cs cn cb = z at *
  cases d0 : decide (1 ≤ ck) with
  | false =>
    have HR := Lib.hid (show z = false by rw [HZ.out]; simp only [d0]; simp)
    clear HZ
    go_enter Try.func129, Try.ntmps129
    go_wp2_with fail
    go_ret
    exact ⟨ret_bool HR.out.symm, Below.chainAlloc (Below.refl _ _) _⟩
  | true =>
    cases d1 : decide (ck ≤ 6) with
    | false =>
      have HR := Lib.hid (show z = false by rw [HZ.out]; simp only [d0, d1]; simp)
      clear HZ
      go_enter Try.func129, Try.ntmps129
      go_wp2_with fail
      go_ret
      exact ⟨ret_bool HR.out.symm, Below.chainAlloc (Below.refl _ _) _⟩
    | true =>
      cases d2 : decide (0 ≤ cs) with
      | false =>
        have HR := Lib.hid (show z = false by rw [HZ.out]; simp only [d0, d1, d2]; simp)
        clear HZ
        go_enter Try.func129, Try.ntmps129
        go_wp2_with fail
        go_ret
        exact ⟨ret_bool HR.out.symm, Below.chainAlloc (Below.refl _ _) _⟩
      | true =>
        cases d3 : decide (cs ≤ 255) with
        | false =>
          have HR := Lib.hid (show z = false by rw [HZ.out]; simp only [d0, d1, d2, d3]; simp)
          clear HZ
          go_enter Try.func129, Try.ntmps129
          go_wp2_with fail
          go_ret
          exact ⟨ret_bool HR.out.symm, Below.chainAlloc (Below.refl _ _) _⟩
        | true =>
          cases d4 : decide (0 ≤ cn) with
          | false =>
            have HR := Lib.hid (show z = false by rw [HZ.out]; simp only [d0, d1, d2, d3, d4]; simp)
            clear HZ
            go_enter Try.func129, Try.ntmps129
            go_wp2_with fail
            go_ret
            exact ⟨ret_bool HR.out.symm, Below.chainAlloc (Below.refl _ _) _⟩
          | true =>
            cases d5 : decide (cn ≤ 65535) with
            | false =>
              have HR := Lib.hid (show z = false by rw [HZ.out]; simp only [d0, d1, d2, d3, d4, d5]; simp)
              clear HZ
              go_enter Try.func129, Try.ntmps129
              go_wp2_with fail
              go_ret
              exact ⟨ret_bool HR.out.symm, Below.chainAlloc (Below.refl _ _) _⟩
            | true =>
              cases d6 : decide ((cb.length : Int) ≤ 2048) with
              | false =>
                have HR := Lib.hid (show z = false by rw [HZ.out]; simp only [d0, d1, d2, d3, d4, d5, d6]; simp)
                clear HZ
                go_enter Try.func129, Try.ntmps129
                go_wp2_with fail
                go_ret
                exact ⟨ret_bool HR.out.symm, Below.chainAlloc (Below.refl _ _) _⟩
              | true =>
                match cb, HZ, d6 with
                | [], HZ, d6 =>
                  have HR := Lib.hid (show z = true by rw [HZ.out]; simp only [d0, d1, d2, d3, d4, d5, d6]; simp)
                  clear HZ
                  go_enter Try.func129, Try.ntmps129
                  go_wp2_with fail
                  go_ret
                  exact ⟨ret_bool HR.out.symm, Below.chainAlloc (Below.refl _ _) _⟩
                | x :: t, HZ, d6 =>
                  have d8 : decide ((t.length : Int) + 1 ≤ 2048) = true := by simpa using d6
                  cases d7 : (ck == 2)
                  all_goals
                    have HR := Lib.hid (show z = (ck == 2) by rw [HZ.out]; simp only [d0, d1, d2, d3, d4, d5, d6]; simp)
                    rw [d7] at HR
                    clear HZ
                    go_enter Try.func129, Try.ntmps129
                    go_wp2_with fail
                    go_ret
                    exact ⟨ret_bool HR.out.symm, Below.chainAlloc (Below.refl _ _) _⟩
end Go.Proofs.Ytdjjienklfbalaa
