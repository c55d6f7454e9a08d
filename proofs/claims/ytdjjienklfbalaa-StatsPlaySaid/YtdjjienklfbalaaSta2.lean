/-
  Stats: the least, the greatest, the mean, any part: contracts (chapter 51).
-/
import Derived.Test.YtdjjienklfbalaaSta1
namespace Go.Proofs.Ytdjjienklfbalaa
open Go.RowKit
set_option linter.unusedVariables false
set_option maxRecDepth 100000
set_option maxHeartbeats 1000000
theorem cl_least (n : Int) (w : World) : Calls Try.prog 109 #[.int .i64 n] w fun e w' => e = .returned (.int .i64 0) ∧ w' = w := by
  go_enter Try.func109, Try.ntmps109
  go_wp2_with fail
  go_ret
  exact ⟨rfl, rfl⟩
theorem cl_most (n : Int) (h0 : 0 < n) (h1 : n < 100000) (w : World) : Calls Try.prog 110 #[.int .i64 n] w fun e w' => e = .returned (.int .i64 (n - 1)) ∧ w' = w := by
  have hw : IntKind.i64.wrap (n - 1) = n - 1 := by rw [IntWalk.i64_in _ (by omega)]
  go_enter Try.func110, Try.ntmps110
  go_wp2_with fail
  go_ret
  exact ⟨rfl, rfl⟩
theorem cl_part (c : Nat) (p n : Int) (hp0 : 1 ≤ p) (hp1 : p ≤ 100) (h0 : 0 < n) (h1 : n < 100000) (w : World) (hc : Blk w c #[.int .i64 p] 3) : Calls Try.prog 108 #[.int .i64 n, .pointer (some ⟨c, 0, none⟩)] w fun e w' => e = .returned (.int .i64 ((p * n + 99) / 100 - 1)) ∧ w' = w := by
  have hpn : 1 ≤ p * n ∧ p * n ≤ 10000000 := ⟨by have := Int.mul_le_mul hp0 h0 (by omega) (by omega); omega, by have := Int.mul_le_mul hp1 (Int.le_of_lt h1) (by omega) (by omega); omega⟩
  obtain ⟨m, hm⟩ : ∃ m, p * n = m := ⟨_, rfl⟩
  rw [hm] at hpn ⊢
  have hw1 : wrap64 m = m := IntWalk.wrap64_in _ (by omega)
  have hw2 : wrap64 (m + 99) = m + 99 := IntWalk.wrap64_in _ (by omega)
  have ht : (m + 99).tdiv 100 = (m + 99) / 100 := Int.tdiv_eq_ediv_of_nonneg (by omega)
  have hw3 : wrap64 ((m + 99) / 100) = (m + 99) / 100 := IntWalk.wrap64_in _ (by omega)
  have hw4 : wrap64 ((m + 99) / 100 - 1) = (m + 99) / 100 - 1 := IntWalk.wrap64_in _ (by omega)
  have HH := Lib.hid (And.intro hm (And.intro hw1 (And.intro hw2 (And.intro ht (And.intro hw3 hw4)))))
  clear hm hw1 hw2 ht hw3 hw4
  obtain ⟨c1, f1, l1⟩ := hc.facts
  clear hc
  go_enter Try.func108, Try.ntmps108
  go_wp2_with fail
  go_ret
  obtain ⟨e0, e1, e2, e3, e4, e5⟩ := HH.out
  refine ⟨?_, rfl⟩
  show Ending.returned (.int .i64 (wrap64 (wrap64 ((wrap64 (wrap64 (p * n) + 99)).tdiv 100) - 1))) = _
  rw [e0, e1, e2, e3, e4, e5]
theorem part_gen (f : Nat) (binds : Array Value) (b : Nat) (zs : List Int) (sum : Int) (k : Nat) (hk : k < zs.length) (hl : zs.length < 100000) (w : World) (h : St w b zs sum)
    (hen : ∀ args w, (callFunc f args).run Try.prog w = .ok (.enter f args) w) (HC : ∀ w', w'.heap = w.heap → Calls Try.prog f (#[.int .i64 (zs.length : Nat)] ++ binds) w' fun e w'' => e = .returned (.int .i64 k) ∧ w'' = w') :
    Calls Try.prog 107 #[.pointer (some ⟨b, 0, none⟩), .func (Fn.func f) #[] binds] w fun e w' => e = .returned (.int .i64 (zs[k]'hk)) ∧ Below w.heap.size w w' := by
  have HL := Lib.hid (len_st b zs sum)
  have HS := Lib.hid h
  obtain ⟨v, h1, h2⟩ := h
  obtain ⟨g, off, cap, rfl, _, hg, _⟩ := h2.shape (by omega)
  have hcell : w.cell? ⟨g, off + k, none⟩ = some (.int .i64 (zs[k]'hk)) := by
    rw [h2.at k (by omega)]
    simp [hk]
  obtain ⟨c1, f1, l1⟩ := h1.facts
  have hd0 : ((zs.length : Int) == 0) = false := by rw [beq_eq_false_iff_ne]; omega
  have hki : (k : Int) < (zs.length : Int) := by omega
  generalize zs[k]'hk = x at *
  have HCl := Lib.hid HC
  clear h1 h2 HC
  generalize zs.length = n at *
  go_enter Try.func107, Try.ntmps107
  go_wp2_with fail
  refine (HL.out _ HS.out).mono ?_
  rintro e w1 ⟨rfl, rfl⟩
  go_upto_region 3 with fail
  go_quiet ((refine Calls.quiet_of_same (HCl.out _ rfl)))
  go_wp2_with fail
  go_ret
  exact ⟨rfl, ⟨rfl, rfl, rfl, Nat.le_refl _, fun _ _ => rfl⟩⟩
theorem en_least : ∀ args w, (callFunc 109 args).run Try.prog w = .ok (.enter 109 args) w := enters_of Try.func109 (by kernel_rfl) rfl
theorem en_most : ∀ args w, (callFunc 110 args).run Try.prog w = .ok (.enter 110 args) w := enters_of Try.func110 (by kernel_rfl) rfl
theorem en_part : ∀ args w, (callFunc 108 args).run Try.prog w = .ok (.enter 108 args) w := enters_of Try.func108 (by kernel_rfl) rfl
/-- The number at a place; 0: there are none. -/
def atZ (zs : List Int) (k : Nat) : Int := zs.getD k 0
theorem least_st (b : Nat) (zs : List Int) (sum : Int) (hl : zs.length < 100000) (hp : 0 < zs.length) (w : World) (h : St w b zs sum) : Calls Try.prog 57 #[.pointer (some ⟨b, 0, none⟩)] w fun e w' => e = .returned (.int .i64 (atZ zs 0)) ∧ Below w.heap.size w w' := by
  have H := Lib.hid (part_gen 109 #[] b zs sum 0 hp hl w h en_least (fun w' _ => cl_least _ w'))
  have e : zs[0]'hp = atZ zs 0 := by unfold atZ; simp [hp]
  rw [e] at H
  clear h
  generalize atZ zs 0 = y at *
  clear e
  go_enter Try.func57, Try.ntmps57
  go_wp2_with fail
  refine H.out.mono ?_
  rintro e w1 ⟨rfl, hb⟩
  go_wp2_with fail
  go_ret
  exact ⟨rfl, hb⟩
theorem most_st (b : Nat) (zs : List Int) (sum : Int) (hl : zs.length < 100000) (hp : 0 < zs.length) (w : World) (h : St w b zs sum) : Calls Try.prog 58 #[.pointer (some ⟨b, 0, none⟩)] w fun e w' => e = .returned (.int .i64 (atZ zs (zs.length - 1))) ∧ Below w.heap.size w w' := by
  have H := Lib.hid (part_gen 110 #[] b zs sum (zs.length - 1) (by omega) hl w h en_most (fun w' _ => by
    have := cl_most (zs.length : Nat) (by omega) (by omega) w'
    rw [show ((zs.length : Nat) : Int) - 1 = ((zs.length - 1 : Nat) : Int) by omega] at this
    exact this))
  have e : zs[zs.length - 1]'(by omega) = atZ zs (zs.length - 1) := by unfold atZ; simp [show zs.length - 1 < zs.length by omega]
  rw [e] at H
  clear h
  generalize atZ zs (zs.length - 1) = y at *
  clear e
  go_enter Try.func58, Try.ntmps58
  go_wp2_with fail
  refine H.out.mono ?_
  rintro e w1 ⟨rfl, hb⟩
  go_wp2_with fail
  go_ret
  exact ⟨rfl, hb⟩
def partAt (p : Int) (n : Nat) : Nat := ((p * n + 99) / 100 - 1).toNat
theorem partAt_lt {p : Int} {n : Nat} (hp0 : 1 ≤ p) (hp1 : p ≤ 100) (h0 : 0 < n) : partAt p n < n ∧ ((partAt p n : Nat) : Int) = (p * n + 99) / 100 - 1 := by
  have h1 : 1 ≤ p * n := by have := Int.mul_le_mul hp0 (show (1 : Int) ≤ n by omega) (by omega) (by omega); omega
  have h2 : p * n ≤ 100 * n := Int.mul_le_mul_of_nonneg_right hp1 (by omega)
  unfold partAt
  omega
theorem part_st (b : Nat) (zs : List Int) (sum p : Int) (hp0 : 1 ≤ p) (hp1 : p ≤ 100) (hl : zs.length < 100000) (hp : 0 < zs.length) (w : World) (h : St w b zs sum) : Calls Try.prog 56 #[.pointer (some ⟨b, 0, none⟩), .int .i64 p] w fun e w' => e = .returned (.tuple #[.int .i64 (atZ zs (partAt p zs.length)), .int .i64 0]) ∧ Below w.heap.size w w' := by
  obtain ⟨q1, q2⟩ := partAt_lt hp0 hp1 hp
  have h' := h.below (Below.chainAlloc (Below.refl w.heap.size w) (.cells #[.int .i64 p] 3))
  have kc := Blk.new w #[.int .i64 p] 3
  have hB := Below.chainAlloc (Below.refl w.heap.size w) (.cells #[.int .i64 p] 3)
  have H := Lib.hid (part_gen 108 #[.pointer (some ⟨w.heap.size, 0, none⟩)] b zs sum (partAt p zs.length) q1 hl _ h' en_part (fun w' e => by
    have := cl_part w.heap.size p (zs.length : Nat) hp0 hp1 (by omega) (by omega) w' (by unfold Blk at *; rw [e]; exact kc)
    rw [← q2] at this
    exact this))
  have e : zs[partAt p zs.length]'q1 = atZ zs (partAt p zs.length) := by unfold atZ; simp [q1]
  rw [e] at H
  have hlt := h.lt
  obtain ⟨v, h1, h2⟩ := h'
  obtain ⟨a, cap, rfl⟩ := h2.form
  obtain ⟨cb, fb, lb⟩ := h1.facts
  have d0 : ((zs.length : Int) == 0) = false := by rw [beq_eq_false_iff_ne]; omega
  have d1 : decide (p < 1) = false := by simp; omega
  have d2 : decide (100 < p) = false := by simp; omega
  clear e h h1 h2 q1 q2 kc
  generalize atZ zs (partAt p zs.length) = y at *
  generalize zs.length = n at *
  go_enter Try.func56, Try.ntmps56
  go_wp2_with fail
  refine H.out.mono ?_
  rintro e w1 ⟨rfl, hb⟩
  go_wp2_with fail
  go_ret2
  exact ⟨rfl, Below.chain hb hB⟩
theorem mean_st (b : Nat) (zs : List Int) (sum : Int) (hl : zs.length < 100000) (hp : 0 < zs.length) (hs0 : 0 ≤ sum) (hs1 : sum ≤ 1099511627776) (w : World) (h : St w b zs sum) : Calls Try.prog 59 #[.pointer (some ⟨b, 0, none⟩)] w fun e w' => e = .returned (.int .i64 (sum / (zs.length : Nat))) ∧ Below w.heap.size w w' := by
  have HL := Lib.hid (len_st b zs sum)
  have HS := Lib.hid h
  obtain ⟨v, h1, h2⟩ := h
  obtain ⟨a, cap, rfl⟩ := h2.form
  obtain ⟨c1, f1, l1⟩ := h1.facts
  have hd0 : ((zs.length : Int) == 0) = false := by rw [beq_eq_false_iff_ne]; omega
  have ht : sum.tdiv (zs.length : Nat) = sum / (zs.length : Nat) := Int.tdiv_eq_ediv_of_nonneg hs0
  have hq : 0 ≤ sum / ((zs.length : Nat) : Int) ∧ sum / ((zs.length : Nat) : Int) ≤ sum := ⟨Int.ediv_nonneg hs0 (by omega), Int.ediv_le_self _ hs0⟩
  have hw : wrap64 (sum / ((zs.length : Nat) : Int)) = sum / ((zs.length : Nat) : Int) := IntWalk.wrap64_in _ (by omega)
  have HT := Lib.hid (And.intro ht hw)
  clear h1 h2 ht hw hq
  generalize zs.length = n at *
  go_enter Try.func59, Try.ntmps59
  go_wp2_with fail
  refine (HL.out _ HS.out).mono ?_
  rintro e w1 ⟨rfl, rfl⟩
  go_upto_region 3 with fail
  go_quiet (fail)
  go_wp2_with fail
  go_ret
  exact ⟨rfl, ⟨rfl, rfl, rfl, Nat.le_refl _, fun _ _ => rfl⟩⟩
end Go.Proofs.Ytdjjienklfbalaa
