/-
  Scripts: whether a step may be, numbers: the document's contracts (chapter 33).
-/
import Derived.Test.YtdjjienklfbalaaScr2
import Derived.Test.YtdjjienklfbalaaWireRef
import Derived.Laws.StructEq
namespace Go.Proofs.Ytdjjienklfbalaa
open Go.RowKit
set_option linter.unusedVariables false
set_option maxRecDepth 100000
set_option maxHeartbeats 1000000
theorem num_r (z size : Int) (h0 : 0 ≤ z) (h1 : z < 4294967296) (w : World) : Calls Try.prog 91 #[.int .i64 z, .int .i64 size] w (RetB (Str (putS z size)) w) := by
  have HP := Lib.hid (fun wx => rput_any z size h0 h1 wx)
  go_enter Try.func91, Try.ntmps91
  go_wp2_with fail
  refine (HP.out _).mono ?_
  rintro e w1 ⟨rfl, hb⟩
  generalize putS z size = s at *
  generalize putE z size = y at *
  go_wp2_with fail
  go_ret
  exact ⟨rfl, hb⟩
theorem rcall_s (ck cs cn : Int) (cb : List UInt8) (w : World) : Calls Try.prog 131 #[.agg #[.int .i64 ck, .int .i64 cs, .int .i64 cn, Str cb]] w (RetB (.bool (callB ck cs cn cb)) w) := by
  have HZ := Lib.hid (callB_eq ck cs cn cb)
  generalize callB ck cs cn cb = z at *
  cases d0 : decide (1 ≤ ck) with
  | false =>
    have HR := Lib.hid (show z = false by rw [HZ.out]; simp only [d0]; simp)
    clear HZ
    go_enter Try.func131, Try.ntmps131
    go_wp2_with fail
    go_ret
    exact ⟨ret_bool HR.out.symm, Below.chainAlloc (Below.refl _ _) _⟩
  | true =>
    cases d1 : decide (ck ≤ 6) with
    | false =>
      have HR := Lib.hid (show z = false by rw [HZ.out]; simp only [d0, d1]; simp)
      clear HZ
      go_enter Try.func131, Try.ntmps131
      go_wp2_with fail
      go_ret
      exact ⟨ret_bool HR.out.symm, Below.chainAlloc (Below.refl _ _) _⟩
    | true =>
      cases d2 : decide (0 ≤ cs) with
      | false =>
        have HR := Lib.hid (show z = false by rw [HZ.out]; simp only [d0, d1, d2]; simp)
        clear HZ
        go_enter Try.func131, Try.ntmps131
        go_wp2_with fail
        go_ret
        exact ⟨ret_bool HR.out.symm, Below.chainAlloc (Below.refl _ _) _⟩
      | true =>
        cases d3 : decide (cs ≤ 255) with
        | false =>
          have HR := Lib.hid (show z = false by rw [HZ.out]; simp only [d0, d1, d2, d3]; simp)
          clear HZ
          go_enter Try.func131, Try.ntmps131
          go_wp2_with fail
          go_ret
          exact ⟨ret_bool HR.out.symm, Below.chainAlloc (Below.refl _ _) _⟩
        | true =>
          cases d4 : decide (0 ≤ cn) with
          | false =>
            have HR := Lib.hid (show z = false by rw [HZ.out]; simp only [d0, d1, d2, d3, d4]; simp)
            clear HZ
            go_enter Try.func131, Try.ntmps131
            go_wp2_with fail
            go_ret
            exact ⟨ret_bool HR.out.symm, Below.chainAlloc (Below.refl _ _) _⟩
          | true =>
            cases d5 : decide (cn ≤ 65535) with
            | false =>
              have HR := Lib.hid (show z = false by rw [HZ.out]; simp only [d0, d1, d2, d3, d4, d5]; simp)
              clear HZ
              go_enter Try.func131, Try.ntmps131
              go_wp2_with fail
              go_ret
              exact ⟨ret_bool HR.out.symm, Below.chainAlloc (Below.refl _ _) _⟩
            | true =>
              cases d6 : decide ((cb.length : Int) ≤ 2048) with
              | false =>
                have HR := Lib.hid (show z = false by rw [HZ.out]; simp only [d0, d1, d2, d3, d4, d5, d6]; simp)
                clear HZ
                go_enter Try.func131, Try.ntmps131
                go_wp2_with fail
                go_ret
                exact ⟨ret_bool HR.out.symm, Below.chainAlloc (Below.refl _ _) _⟩
              | true =>
                match cb, HZ, d6 with
                | [], HZ, d6 =>
                  have HR := Lib.hid (show z = true by rw [HZ.out]; simp only [d0, d1, d2, d3, d4, d5, d6]; simp)
                  clear HZ
                  go_enter Try.func131, Try.ntmps131
                  go_wp2_with fail
                  go_ret
                  exact ⟨ret_bool HR.out.symm, Below.chainAlloc (Below.refl _ _) _⟩
                | x :: t, HZ, d6 =>
                  have d8 : decide ((t.length : Int) + 1 ≤ 2048) = true := by simpa using d6
                  cases d7 : (ck == 2)
                  all_goals
                    have HR := Lib.hid (show z = (ck == 2) by rw [HZ.out]; simp only [d0, d1, d2, d3, d4, d5, d6]; simp)
                    rw [d7] at HR
                    clear HZ
                    go_enter Try.func131, Try.ntmps131
                    go_wp2_with fail
                    go_ret
                    exact ⟨ret_bool HR.out.symm, Below.chainAlloc (Below.refl _ _) _⟩
theorem rmay_bad (kind side ck cs cn : Int) (cb : List UInt8) (n : Int) (raw : List UInt8) (hbad : kind < 1 ∨ 11 < kind ∨ side < 0 ∨ 1 < side ∨ n < 0 ∨ 2147483647 < n ∨ 2048 < (raw.length : Int)) (w : World) : Calls Try.prog 90 #[.agg #[.int .i64 kind, .int .i64 side, .int .i64 ck, .int .i64 cs, .int .i64 cn, Str cb, .int .i64 n, Str raw]] w (RetB (.bool false) w) := by
  go_enter Try.func90, Try.ntmps90
  go_wp2_with fail
  all_goals first
    | (exfalso; omega)
    | (go_ret; exact ⟨rfl, Below.chainAlloc (Below.refl _ _) _⟩)
theorem rmay_raw (kind side ck cs cn : Int) (cb : List UInt8) (n : Int) (raw : List UInt8) (x : UInt8) (t : List UInt8) (hr : raw = x :: t) (hk : (kind == 10) = false) (k0 : decide (kind < 1) = false) (k1 : decide (11 < kind) = false) (f1 : decide (side < 0) = false) (f2 : decide (1 < side) = false) (f3 : decide (n < 0) = false) (f4 : decide (2147483647 < n) = false) (f5 : decide (2048 < ((t.length : Int) + 1)) = false) (w : World) : Calls Try.prog 90 #[.agg #[.int .i64 kind, .int .i64 side, .int .i64 ck, .int .i64 cs, .int .i64 cn, Str cb, .int .i64 n, Str raw]] w (RetB (.bool false) w) := by
  subst hr
  have hk2 : (kind != 10) = true := by simpa using hk
  go_enter Try.func90, Try.ntmps90
  go_wp2_with fail
  go_ret
  exact ⟨rfl, Below.chainAlloc (Below.refl _ _) _⟩
theorem rmay_1 (side ck cs cn : Int) (cb : List UInt8) (n : Int) (raw : List UInt8) (hr : raw = []) (f1 : decide (side < 0) = false) (f2 : decide (1 < side) = false) (f3 : decide (n < 0) = false) (f4 : decide (2147483647 < n) = false) (w : World) : Calls Try.prog 90 #[.agg #[.int .i64 1, .int .i64 side, .int .i64 ck, .int .i64 cs, .int .i64 cn, Str cb, .int .i64 n, Str raw]] w (RetB (.bool (callB ck cs cn cb)) w) := by
  subst hr
  have HC := Lib.hid (rcall_s ck cs cn cb)
  generalize callB ck cs cn cb = z at *
  go_enter Try.func90, Try.ntmps90
  go_wp2_with fail
  refine (HC.out _).mono ?_
  rintro e w1 ⟨rfl, hb⟩
  have hB := Below.chain hb (Below.chainAlloc (Below.refl _ _) _)
  clear hb
  go_wp2_with fail
  go_ret
  exact ⟨rfl, hB⟩
theorem rmay_10 (side ck cs cn : Int) (cb : List UInt8) (n : Int) (raw : List UInt8) (f1 : decide (side < 0) = false) (f2 : decide (1 < side) = false) (f3 : decide (n < 0) = false) (f4 : decide (2147483647 < n) = false) (f5 : decide (2048 < (raw.length : Int)) = false) (w : World) : Calls Try.prog 90 #[.agg #[.int .i64 10, .int .i64 side, .int .i64 ck, .int .i64 cs, .int .i64 cn, Str cb, .int .i64 n, Str raw]] w (RetB (.bool (ck == 0 && cs == 0 && cn == 0 && decide (cb = []))) w) := by
  have hq := run_eql_call ck cs cn cb
  have hgd := gd_call ck cs cn cb
  generalize (ck == 0 && cs == 0 && cn == 0 && decide (cb = [])) = z at *
  cases raw
  all_goals
    have f6 := f5
    try simp only [List.length_cons, List.length_nil] at f6
    try push_cast at f6
    go_enter Try.func90, Try.ntmps90
    go_wp2_with fail
    go_ret
    exact ⟨rfl, Below.chainAlloc (Below.refl _ _) _⟩
theorem rmay_o (kind side ck cs cn : Int) (cb : List UInt8) (n : Int) (raw : List UInt8) (hr : raw = []) (h1 : (kind == 1) = false) (k0 : decide (kind < 1) = false) (k1 : decide (11 < kind) = false) (f1 : decide (side < 0) = false) (f2 : decide (1 < side) = false) (f3 : decide (n < 0) = false) (f4 : decide (2147483647 < n) = false) (w : World) : Calls Try.prog 90 #[.agg #[.int .i64 kind, .int .i64 side, .int .i64 ck, .int .i64 cs, .int .i64 cn, Str cb, .int .i64 n, Str raw]] w (RetB (.bool (ck == 0 && cs == 0 && cn == 0 && decide (cb = []))) w) := by
  subst hr
  have hq := run_eql_call ck cs cn cb
  have hgd := gd_call ck cs cn cb
  generalize (ck == 0 && cs == 0 && cn == 0 && decide (cb = [])) = z at *
  go_enter Try.func90, Try.ntmps90
  go_wp2_with fail
  go_ret
  exact ⟨rfl, Below.chainAlloc (Below.refl _ _) _⟩
theorem rmay_s (a : Ac) (w : World) : Calls Try.prog 90 #[a.val] w (RetB (.bool (mayA a)) w) := by
  obtain ⟨kind, side, ck, cs, cn, cb, n, raw⟩ := a
  by_cases hbad : kind < 1 ∨ 11 < kind ∨ side < 0 ∨ 1 < side ∨ n < 0 ∨ 2147483647 < n ∨ 2048 < (raw.length : Int)
  · have e : mayA ⟨kind, side, ck, cs, cn, cb, n, raw⟩ = false := by
      cases e : mayA ⟨kind, side, ck, cs, cn, cb, n, raw⟩ with
      | false => rfl
      | true =>
        obtain ⟨hk, hs, hn, hc, hr, h0, hw⟩ := mayA_facts e
        simp only at hk hs hn hr hw
        exfalso
        by_cases k10 : kind = 10
        · have := hr k10; omega
        · have := hw k10; subst this; simp at hbad; omega
    rw [e]
    exact rmay_bad kind side ck cs cn cb n raw hbad w
  · have hh : hdB ⟨kind, side, ck, cs, cn, cb, n, raw⟩ = true := by
      unfold hdB
      simp only [Bool.and_eq_true, decide_eq_true_eq]
      omega
    have e : mayA ⟨kind, side, ck, cs, cn, cb, n, raw⟩ = (if kind = 1 then decide (raw = []) && callB ck cs cn cb else if kind = 10 then decide (raw.length ≤ 2048) && call0 ⟨kind, side, ck, cs, cn, cb, n, raw⟩ else decide (raw = []) && call0 ⟨kind, side, ck, cs, cn, cb, n, raw⟩) := by
      unfold mayA
      rw [hh, Bool.true_and]
    rw [e]
    have g1 : decide (kind < 1) = false := by simp; omega
    have g2 : decide (11 < kind) = false := by simp; omega
    have f1 : decide (side < 0) = false := by simp; omega
    have f2 : decide (1 < side) = false := by simp; omega
    have f3 : decide (n < 0) = false := by simp; omega
    have f4 : decide (2147483647 < n) = false := by simp; omega
    have f5 : decide (2048 < (raw.length : Int)) = false := by simp; omega
    by_cases k10 : kind = 10
    · subst k10
      rw [if_neg (show ¬ (10 : Int) = 1 by decide), if_pos rfl, decide_eq_true (show raw.length ≤ 2048 by omega), Bool.true_and]
      exact rmay_10 side ck cs cn cb n raw f1 f2 f3 f4 f5 w
    · cases hraw : raw with
      | cons x t =>
        have hz : (if kind = 1 then decide (x :: t = []) && callB ck cs cn cb else if kind = 10 then decide ((x :: t).length ≤ 2048) && call0 ⟨kind, side, ck, cs, cn, cb, n, x :: t⟩ else decide (x :: t = []) && call0 ⟨kind, side, ck, cs, cn, cb, n, x :: t⟩) = false := by
          by_cases k1 : kind = 1
          · rw [if_pos k1]; simp
          · rw [if_neg k1, if_neg k10]; simp
        rw [hz]
        exact rmay_raw kind side ck cs cn cb n (x :: t) x t rfl (by simpa using k10) g1 g2 f1 f2 f3 f4 (by rw [hraw] at f5; simpa using f5) w
      | nil =>
        by_cases k1 : kind = 1
        · subst k1
          rw [if_pos rfl, decide_eq_true rfl, Bool.true_and]
          exact rmay_1 side ck cs cn cb n [] rfl f1 f2 f3 f4 w
        · rw [if_neg k1, if_neg k10, decide_eq_true rfl, Bool.true_and]
          exact rmay_o kind side ck cs cn cb n [] rfl (by simpa using k1) g1 g2 f1 f2 f3 f4 w
end Go.Proofs.Ytdjjienklfbalaa
