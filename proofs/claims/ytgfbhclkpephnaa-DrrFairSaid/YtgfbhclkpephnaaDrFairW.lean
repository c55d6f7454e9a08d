/-
  Whose turn it is: the walk of the law DrrFair (chapter 17).
-/
import Derived.Test.YtgfbhclkpephnaaDrF2
import Derived.Test.YtgfbhclkpephnaaLift3
import Derived.Deep.CutBlock
namespace Go.Proofs.Ytgfbhclkpephnaa
open Go Go.ChangeShapes Go.WideShapes Go.ChangeAt Go.RowKit
set_option linter.unusedVariables false
set_option linter.unusedSimpArgs false
set_option maxRecDepth 100000
set_option maxHeartbeats 4000000
theorem infoInt17 : (Try.prog.info? 3).map (fun i => (i.zero, i.size, i.bytes)) = some (some (.int .i64 0), 1, 8) := by kernel_rfl
theorem byte16 (z : Int) (h0 : 0 ≤ z) (h1 : z ≤ 255) : ∃ j t : Nat, z.tmod 16 = (j : Int) ∧ z.tdiv 16 = (t : Int) ∧ j < 16 ∧ t ≤ 15 := by
  refine ⟨(z.tmod 16).toNat, (z.tdiv 16).toNat, ?_, ?_, ?_, ?_⟩
  · rw [Int.tmod_eq_emod_of_nonneg h0]; omega
  · rw [Int.tdiv_eq_ediv_of_nonneg h0]; omega
  · rw [Int.tmod_eq_emod_of_nonneg h0]; omega
  · rw [Int.tdiv_eq_ediv_of_nonneg h0]; omega
theorem wr_small (n : Int) (h : -1000000000000 ≤ n ∧ n ≤ 1000000000000) : IntKind.i64.wrap n = n ∧ wrap64 n = n := ⟨IntWalk.i64_in _ (by omega), IntWalk.wrap64_in _ (by omega)⟩
theorem wr_byte (n : Int) (h : 0 ≤ n ∧ n ≤ 255) : IntKind.u8.wrap n = n := IntWalk.u8_in _ (by omega)
theorem wr16 (j t k len : Nat) (hj : j < 16) (ht : t ≤ 15) (hk : k < len) (hl : len ≤ 120) : IntKind.i64.wrap (j : Int) = (j : Int) ∧ IntKind.i64.wrap (t : Int) = (t : Int) ∧ IntKind.i64.wrap ((j : Int) + 1) = (j : Int) + 1 ∧ wrap64 ((j : Int) + 1) = (j : Int) + 1 ∧ IntKind.i64.wrap ((t : Int) + 1) = (t : Int) + 1 ∧ wrap64 ((t : Int) + 1) = (t : Int) + 1 ∧ IntKind.u8.wrap (t : Int) = (t : Int) ∧ IntKind.u8.wrap (j : Int) = (j : Int) ∧ IntKind.i64.wrap ((k : Int) + 1) = (k : Int) + 1 ∧ wrap64 ((k : Int) + 1) = (k : Int) + 1 :=
  ⟨(wr_small _ (by omega)).1, (wr_small _ (by omega)).1, (wr_small _ (by omega)).1, (wr_small _ (by omega)).2, (wr_small _ (by omega)).1, (wr_small _ (by omega)).2, wr_byte _ (by omega), wr_byte _ (by omega), (wr_small _ (by omega)).1, (wr_small _ (by omega)).2⟩
theorem al_push' {W w : World} {bs : Nat} {S : PS} {F : List Nat} (a b : Int) (h : Al W bs S F w) (ht : totQ S.qs ≤ 60000) : Calls Try.prog 19 #[.pointer (some ⟨bs, 0, none⟩), .agg #[.int .i64 a, .int .i64 b]] w fun e w' => e = .returned (.int .i64 (pushE S (a, b))) ∧ Al W bs (pushA S (a, b)) F w' ∧ Keep F w w' := al_push (a, b) h ht
theorem al_next' {W w : World} {bs : Nat} {S : PS} {F : List Nat} (h : Al W bs S F w) (ht : totQ S.qs ≤ 60000) (hr : S.round ≠ []) : Calls Try.prog 20 #[.pointer (some ⟨bs, 0, none⟩)] w fun e w' => ∃ S' x1 x2, e = .returned (.tuple #[.agg #[.int .i64 x1, .int .i64 x2], .bool true]) ∧ Took S S' (x1, x2) ∧ Al W bs S' F w' ∧ Keep F w w' := by
  refine (al_next h ht hr).mono ?_
  rintro e w' ⟨S', x, h1, h2, h3⟩
  exact ⟨S', x.1, x.2, h1, h2, h3⟩
/-- The law says nothing of these. -/
def fairOff (w1 w2 z : Int) (len : Nat) : Prop := 120 < len ∨ w1 = 0 ∨ w2 = 0 ∨ z = 0
theorem fair_off (w1 w2 z : Int) (a : Option Addr) (len cap : Nat) (h : fairOff w1 w2 z len) (W : World) : Calls Try.prog 4 #[.agg #[.int .u8 w1, .int .u8 w2], .int .u8 z, .slice a len cap] W fun e w' => e = .returned (.bool true) ∧ Below W.heap.size W w' := by
  have HAW := Lib.hid fun w => awake17_ok w
  have HB := Lib.hid (Below.chainAlloc (Below.refl _ W) (.cells #[.int .u8 w1, .int .u8 w2] 43))
  have c0 := (Blk.new W #[.int .u8 w1, .int .u8 w2] 43).facts.1 0
  have c1 := (Blk.new W #[.int .u8 w1, .int .u8 w2] 43).facts.1 1
  by_cases h1 : 120 < len
  · have h1' : (120 : Int) < (len : Int) := by omega
    clear h h1
    go_enter Try.func4, Try.ntmps4
    go_wp2_with fail
    refine (HAW.out _).mono ?_
    rintro e w1 ⟨rfl, hb⟩
    have HB1 := Lib.hid (Below.chain hb HB.out)
    clear hb
    go_wp2_with fail
    go_ret
    exact ⟨rfl, HB1.out⟩
  · have h1' : ¬ (120 : Int) < (len : Int) := by omega
    by_cases h2 : w1 = 0
    · subst h2
      clear h h1
      go_enter Try.func4, Try.ntmps4
      go_wp2_with fail
      refine (HAW.out _).mono ?_
      rintro e w1 ⟨rfl, hb⟩
      have HB1 := Lib.hid (Below.chain hb HB.out)
      clear hb
      go_wp2_with fail
      go_ret
      exact ⟨rfl, HB1.out⟩
    · have h2' : (w1 == 0) = false := beq_eq_false_iff_ne.2 h2
      by_cases h3 : w2 = 0
      · subst h3
        clear h h1
        go_enter Try.func4, Try.ntmps4
        go_wp2_with fail
        refine (HAW.out _).mono ?_
        rintro e w1 ⟨rfl, hb⟩
        have HB1 := Lib.hid (Below.chain hb HB.out)
        clear hb
        go_wp2_with fail
        go_ret
        exact ⟨rfl, HB1.out⟩
      · have h3' : (w2 == 0) = false := beq_eq_false_iff_ne.2 h3
        obtain rfl : z = 0 := by unfold fairOff at h; omega
        clear h h1
        go_enter Try.func4, Try.ntmps4
        go_wp2_with fail
        refine (HAW.out _).mono ?_
        rintro e w1 ⟨rfl, hb⟩
        have HB1 := Lib.hid (Below.chain hb HB.out)
        clear hb
        go_wp2_with fail
        go_ret
        exact ⟨rfl, HB1.out⟩
structure PreF (z w1 w2 : Int) (S : PS) (k : Nat) : Prop where
  ids : S.qs.map PQ.id = [1, 2, 3]
  qz : S.quantum = z
  t : totQ S.qs = 2 * k
  s0 : k = 0 → S = fs17 z w1 w2
  s1 : 1 ≤ k → FI z w1 w2 S 0 0
theorem PreF.push {z w1 w2 : Int} {S : PS} {k : Nat} (h : PreF z w1 w2 S k) (hS : S.Ok) (h1 : 1 ≤ w1 ∧ w1 ≤ 255) (h2 : 1 ≤ w2 ∧ w2 ≤ 255) (hz : 1 ≤ z) {n1 n2 : Int} (hn1 : 1 ≤ n1 ∧ n1 ≤ 16) (hn2 : 1 ≤ n2 ∧ n2 ≤ 16) :
    pushE S (1, n1) = 0 ∧ totQ (pushA S (1, n1)).qs = 2 * k + 1 ∧ pushE (pushA S (1, n1)) (2, n2) = 0 ∧ PreF z w1 w2 (pushA (pushA S (1, n1)) (2, n2)) (k + 1) := by
  have m1 : ((1 : Int), n1).1 ∈ S.qs.map PQ.id := by rw [h.ids]; simp
  obtain ⟨a1, a2, a3, a4, a5⟩ := push_items hS m1 (show 1 ≤ n1 ∧ n1 ≤ 65536 by omega)
  have hS1 := pushA_ok hS (1, n1)
  have m2 : ((2 : Int), n2).1 ∈ (pushA S (1, n1)).qs.map PQ.id := by rw [a3, h.ids]; simp
  obtain ⟨b1, b2, b3, b4, b5⟩ := push_items hS1 m2 (show 1 ≤ n2 ∧ n2 ≤ 65536 by omega)
  refine ⟨a1, by rw [a4, h.t], b1, (b3.trans a3).trans h.ids, (b5.trans a5).trans h.qz, by rw [b4, a4, h.t]; omega, fun e => by omega, fun _ => ?_⟩
  by_cases hk : k = 0
  · rw [h.s0 hk]
    exact fs17_first z w1 w2 n1 n2 h1 h2 hz hn1 hn2
  · exact ((h.s1 (by omega)).push hS m1 hn1).push hS1 m2 hn2
theorem PreF.done {z w1 w2 : Int} {S : PS} {k : Nat} (h : PreF z w1 w2 S k) : FrP z w1 w2 S 0 0 [] [] 0 (2 * k) := by
  refine ⟨h.ids, h.qz, fun hl => ?_, Nat.le_of_eq h.t, by simp, by simp, rfl, rfl, fun i h1 => by simp at h1⟩
  by_cases hk : k = 0
  · rw [h.s0 hk] at hl
    simp [itemsOf, fs17, getQ] at hl
  · exact h.s1 (by omega)
theorem push3_items {S : PS} (hS : S.Ok) (hi : S.qs.map PQ.id = [1, 2, 3]) {n : Int} (hn : 1 ≤ n ∧ n ≤ 16) : itemsOf (pushA S (3, n)) 1 = itemsOf S 1 ∧ itemsOf (pushA S (3, n)) 2 = itemsOf S 2 := by
  have hm : ((3 : Int), n).1 ∈ S.qs.map PQ.id := by rw [hi]; simp
  obtain ⟨_, h2, _⟩ := push_items hS hm (show 1 ≤ n ∧ n ≤ 65536 by omega)
  exact ⟨by rw [h2, if_neg (show ¬ (1 : Int) = 3 by decide)], by rw [h2, if_neg (show ¬ (2 : Int) = 3 by decide)]⟩
theorem FrP.more {z w1 w2 : Int} {S : PS} {a b : Int} {L1 L2 : List Int} {k c c' : Nat} (h : FrP z w1 w2 S a b L1 L2 k c) (hc : c ≤ c') : FrP z w1 w2 S a b L1 L2 k c' := ⟨h.ids, h.qz, h.fi, Nat.le_trans h.t hc, h.a, h.b, h.l1, h.l2, h.r⟩
/-- Next, in the law. -/
theorem fair_next {W w : World} {bs bw : Nat} {S : PS} {w1 w2 z p r : Int} {v1 v2 : Value} {L1 L2 : List Int} {c N : Nat} (h : FrS W bs S bw w1 w2 v1 v2 L1 L2 w) (hq : FrP z w1 w2 S p r L1 L2 c N) (hN : N ≤ 60000) (hw1 : 1 ≤ w1) (hw2 : 1 ≤ w2) (hz : 1 ≤ z) (hl1 : 1 < (itemsOf S 1).length) (hl2 : 1 < (itemsOf S 2).length) :
    Calls Try.prog 20 #[.pointer (some ⟨bs, 0, none⟩)] w fun e w' => ∃ S3 x1 x2, e = .returned (.tuple #[.agg #[.int .i64 x1, .int .i64 x2], .bool true]) ∧ FrS W bs S3 bw w1 w2 v1 v2 L1 L2 w' ∧ FrP z w1 w2 S3 (p + add1 (x1, x2)) (r + add2 (x1, x2)) (L1 ++ [p + add1 (x1, x2)]) (L2 ++ [r + add2 (x1, x2)]) (c + 1) N ∧ (0 ≤ x2 ∧ x2 ≤ 65536) := by
  have hr : S.round ≠ [] := by
    have hi : itemsOf S 1 ≠ [] := fun e => by rw [e] at hl1; simp at hl1
    unfold itemsOf at hi
    cases hg : getQ 1 S.qs with
    | none => rw [hg] at hi; exact absurd rfl hi
    | some q =>
      rw [hg] at hi
      have := (h.al.ok.rm 1).2 ⟨q, hg, hi⟩
      intro e
      rw [e] at this
      cases this
  refine (al_next' h.al (by have := hq.t; omega) hr).mono ?_
  rintro e w' ⟨S3, x1, x2, rfl, ht, hal, hk⟩
  obtain ⟨h1, h2⟩ := hq.next h.al.ok ht hw1 hw2 hz hl1 hl2
  exact ⟨S3, x1, x2, rfl, h.step hal hk, h1, h2⟩
theorem sums17 (p r x2 : Int) (c : Nat) (hc : c ≤ 400) (hp : 0 ≤ p ∧ p ≤ 65536 * (c : Int)) (hr : 0 ≤ r ∧ r ≤ 65536 * (c : Int)) (hx : 0 ≤ x2 ∧ x2 ≤ 65536) : wrap64 (p + x2) = p + x2 ∧ wrap64 (r + x2) = r + x2 ∧ wrap64 ((c : Int) + 1) = (c : Int) + 1 := ⟨(wr_small _ (by omega)).2, (wr_small _ (by omega)).2, (wr_small _ (by omega)).2⟩
theorem lens17 {L1 L2 : List Int} {c : Nat} (h1 : L1.length = c) (h2 : L2.length = c) (hc : c < 400) : L1.length ≤ 400 ∧ L2.length ≤ 400 := by omega
theorem meas17 (c : Nat) (hc : c < 400) : 400 - (c + 1) < 400 - c := by omega
theorem rem17 (c : Nat) (hc : c < 400) : (c : Int).tmod 7 = ((c % 7 : Nat) : Int) ∧ (c : Int).tmod 16 = ((c % 16 : Nat) : Int) ∧ wrap64 ((c % 7 : Nat) : Int) = ((c % 7 : Nat) : Int) ∧ wrap64 (((c % 16 : Nat) : Int) + 1) = ((c % 16 : Nat) : Int) + 1 ∧ wrap64 ((c % 16 : Nat) : Int) = ((c % 16 : Nat) : Int) := by
  refine ⟨?_, ?_, (wr_small _ (by omega)).2, (wr_small _ (by omega)).2, (wr_small _ (by omega)).2⟩
  · rw [Int.tmod_eq_emod_of_nonneg (by omega)]; omega
  · rw [Int.tmod_eq_emod_of_nonneg (by omega)]; omega
theorem mulb17 (a b A : Int) (hA : 0 ≤ A) (ha : -A ≤ a ∧ a ≤ A) (hb : 1 ≤ b ∧ b ≤ 255) : -(A * 255) ≤ a * b ∧ a * b ≤ A * 255 := by
  have h1 : a * b ≤ A * b := Int.mul_le_mul_of_nonneg_right ha.2 (by omega)
  have h2 : -A * b ≤ a * b := Int.mul_le_mul_of_nonneg_right ha.1 (by omega)
  have h3 : A * b ≤ A * 255 := Int.mul_le_mul_of_nonneg_left hb.2 hA
  rw [Int.neg_mul] at h2
  omega
theorem most17 (z w1 w2 : Int) (hz : 1 ≤ z ∧ z ≤ 255) (h1 : 1 ≤ w1 ∧ w1 ≤ 255) (h2 : 1 ≤ w2 ∧ w2 ≤ 255) : ∃ m1 m2 M, wrap64 (z + 32) = m1 ∧ wrap64 (m1 * w1) = m2 ∧ wrap64 (m2 * w2) = M ∧ M = (z + 32) * w1 * w2 := by
  have b1 := mulb17 (z + 32) w1 287 (by omega) (by omega) h1
  have b2 := mulb17 ((z + 32) * w1) w2 (287 * 255) (by omega) b1 h2
  exact ⟨_, _, _, (wr_small _ (by omega)).2, (wr_small _ (by omega)).2, (wr_small _ (by omega)).2, rfl⟩
theorem vals17 (z w1 w2 x1 x2 y1 y2 M : Int) (c : Nat) (hc : c ≤ 400) (h1 : 1 ≤ w1 ∧ w1 ≤ 255) (h2 : 1 ≤ w2 ∧ w2 ≤ 255) (hM : M = (z + 32) * w1 * w2)
    (a1 : 0 ≤ x1 ∧ x1 ≤ 65536 * (c : Int)) (a2 : 0 ≤ x2 ∧ x2 ≤ 65536 * (c : Int)) (a3 : 0 ≤ y1 ∧ y1 ≤ 65536 * (c : Int)) (a4 : 0 ≤ y2 ∧ y2 ≤ 65536 * (c : Int))
    (f1 : -(15 * w2) ≤ x1 * w2 - y1 * w1 ∧ x1 * w2 - y1 * w1 ≤ z * w1 * w2 + 15 * w1) (f2 : -(15 * w2) ≤ x2 * w2 - y2 * w1 ∧ x2 * w2 - y2 * w1 ≤ z * w1 * w2 + 15 * w1) :
    ∃ d1 A d2 B D E, IntKind.i64.wrap (x1 - x2) = d1 ∧ IntKind.i64.wrap (d1 * w2) = A ∧ IntKind.i64.wrap (y1 - y2) = d2 ∧ IntKind.i64.wrap (d2 * w1) = B ∧ IntKind.i64.wrap (A - B) = D ∧ Hid (∀ w, Calls Try.prog 21 #[.int .i64 D] w fun e w' => e = .returned (.int .i64 E) ∧ w' = w) ∧ ¬ (M < E) := by
  have b1 := mulb17 (x1 - x2) w2 26214400 (by omega) (by omega) h2
  have b2 := mulb17 (y1 - y2) w1 26214400 (by omega) (by omega) h1
  have hf := fair_le h1.1 h2.1 f1 f2
  rw [← hM] at hf
  refine ⟨_, _, _, _, _, _, (wr_small _ (by omega)).1, (wr_small _ (by omega)).1, (wr_small _ (by omega)).1, (wr_small _ (by omega)).1, (wr_small _ (by omega)).1, Lib.hid fun w => size_any ((x1 - x2) * w2 - (y1 - y2) * w1) (by omega) w, ?_⟩
  split <;> omega
theorem FrS.read {W w : World} {bs bw : Nat} {S : PS} {w1 w2 z p r : Int} {b1 o1 cp1 b2 o2 cp2 c N : Nat} {L1 L2 : List Int} (h : FrS W bs S bw w1 w2 (.slice (some ⟨b1, o1, none⟩) c cp1) (.slice (some ⟨b2, o2, none⟩) c cp2) L1 L2 w) (hq : FrP z w1 w2 S p r L1 L2 c N) (i : Nat) (hi : i < c) :
    ∃ x y, w.cell? ⟨b1, o1 + i, none⟩ = some (.int .i64 x) ∧ w.cell? ⟨b2, o2 + i, none⟩ = some (.int .i64 y) ∧ (0 ≤ x ∧ x ≤ 65536 * (c : Int)) ∧ (0 ≤ y ∧ y ≤ 65536 * (c : Int)) ∧ (-(15 * w2) ≤ x * w2 - y * w1 ∧ x * w2 - y * w1 ≤ z * w1 * w2 + 15 * w1) := by
  have q1 : i < L1.length := by rw [hq.l1]; exact hi
  have q2 : i < L2.length := by rw [hq.l2]; exact hi
  have s1 := h.s1
  have s2 := h.s2
  rw [hq.l1] at s1
  rw [hq.l2] at s2
  have d1 := s1.at i (by omega)
  have d2 := s2.at i (by omega)
  rw [show (iv L1)[i]? = some (.int .i64 L1[i]) by simp [iv, q1]] at d1
  rw [show (iv L2)[i]? = some (.int .i64 L2[i]) by simp [iv, q2]] at d2
  obtain ⟨r1, r2, r3⟩ := hq.r i q1 q2
  exact ⟨_, _, d1, d2, r1, r2, r3⟩
theorem FrS.shape {W w : World} {bs bw : Nat} {S : PS} {w1 w2 z p r : Int} {a1 a2 : Option Addr} {cp1 cp2 c N : Nat} {L1 L2 : List Int} (h : FrS W bs S bw w1 w2 (.slice a1 c cp1) (.slice a2 c cp2) L1 L2 w) (hq : FrP z w1 w2 S p r L1 L2 c N) (hc : 0 < c) : ∃ b1 o1 b2 o2, a1 = some ⟨b1, o1, none⟩ ∧ a2 = some ⟨b2, o2, none⟩ := by
  have s1 := h.s1
  have s2 := h.s2
  rw [hq.l1] at s1
  rw [hq.l2] at s2
  obtain ⟨b1, o1, _, ea, _⟩ := s1.shape hc
  cases ea
  obtain ⟨b2, o2, _, ea, _⟩ := s2.shape hc
  cases ea
  exact ⟨b1, o1, b2, o2, rfl, rfl⟩
theorem fair_walk (w1 w2 z : Int) (hw1 : 0 ≤ w1 ∧ w1 ≤ 255) (hw2 : 0 ≤ w2 ∧ w2 ≤ 255) (hz : 0 ≤ z ∧ z ≤ 255) (a : Option Addr) (len cap : Nat) (zs : List Int) (W : World) (hzs : IsInts .u8 W a len cap zs) : Calls Try.prog 4 #[.agg #[.int .u8 w1, .int .u8 w2], .int .u8 z, .slice a len cap] W fun e w' => e = .returned (.bool true) ∧ Below W.heap.size W w' := by
  by_cases hoff : fairOff w1 w2 z len
  · exact fair_off w1 w2 z a len cap hoff W
  have HK : Hid ((1 ≤ w1 ∧ w1 ≤ 255) ∧ (1 ≤ w2 ∧ w2 ≤ 255) ∧ (1 ≤ z ∧ z ≤ 255) ∧ len ≤ 120) := Lib.hid (by unfold fairOff at hoff; omega)
  have HAW := Lib.hid fun w => awake17_ok w
  have h1 : ¬ (120 : Int) < (len : Int) := by have := HK.out; omega
  have h2 : (w1 == 0) = false := beq_eq_false_iff_ne.2 (by have := HK.out; omega)
  have h3 : (w2 == 0) = false := beq_eq_false_iff_ne.2 (by have := HK.out; omega)
  have h4 : (z == 0) = false := beq_eq_false_iff_ne.2 (by have := HK.out; omega)
  have hB := Below.chainAlloc (Below.refl _ W) (.cells #[.int .u8 w1, .int .u8 w2] 43)
  have hbw := Blk.new W #[.int .u8 w1, .int .u8 w2] 43
  have c0 := hbw.facts.1 0
  have c1 := hbw.facts.1 1
  have HB := Lib.hid hB
  have HBW := Lib.hid hbw
  have HZ := Lib.hid hzs
  have e1 := (wr_small w1 (by omega)).1
  have e2 := (wr_small w2 (by omega)).1
  have e3 := (wr_small z (by omega)).1
  obtain ⟨i0, hi, hz0, hz1, hz2⟩ := info_parts infoInt17
  clear hoff hB hbw hzs hw1 hw2 hz
  go_enter Try.func4, Try.ntmps4
  go_wp2_with fail
  refine (al_new z (by have := HK.out; omega) (by have := HK.out; omega) W _ [W.heap.size] HB.out (by simp)).mono ?_
  rintro e w3 ⟨bs, rfl, hal, hkp⟩
  have hb3 := hkp.blk HBW.out (by simp)
  have HN : Hid (FrS W bs (newP z) W.heap.size w1 w2 (.slice none 0 0) (.slice none 0 0) [] [] w3) := Lib.hid ⟨hal.less (by simp [Value.ownBlock]), hb3, Seg.nil _ _ _ _, Seg.nil _ _ _ _, by simp [Value.ownBlock], Nat.le_refl _⟩
  have c0 := hb3.facts.1 0
  have c1 := hb3.facts.1 1
  have HA : Hid (∀ w id wt S S', addE S id wt = 0 → addP S id wt = S' → FrS W bs S W.heap.size w1 w2 (.slice none 0 0) (.slice none 0 0) [] [] w → Calls Try.prog 18 #[.pointer (some ⟨bs, 0, none⟩), .int .i64 id, .int .i64 wt] w fun e w' => e = .returned (.int .i64 0) ∧ FrS W bs S' W.heap.size w1 w2 (.slice none 0 0) (.slice none 0 0) [] [] w') := Lib.hid fun w id wt S S' hE hS hn => by
    subst hS
    refine (al_add id wt hn.al).mono ?_
    rw [hE, if_pos rfl]
    rintro e w' ⟨h1, h2, h3⟩
    exact ⟨h1, hn.step h2 h3⟩
  have HAD := Lib.hid (fs17_add z w1 w2 HK.out.1 HK.out.2.1)
  clear hal hkp hb3 HBW HB
  go_wp2_with fail
  refine (HA.out _ 1 w1 _ _ HAD.out.1 rfl HN.out).mono ?_
  rintro e w4 ⟨rfl, hn⟩
  have HN4 := Lib.hid hn
  have c0 := hn.wb.facts.1 0
  have c1 := hn.wb.facts.1 1
  clear hn HN
  go_wp2_with fail
  refine (HA.out _ 2 w2 _ _ HAD.out.2.1 rfl HN4.out).mono ?_
  rintro e w5 ⟨rfl, hn⟩
  have HN5 := Lib.hid hn
  clear hn HN4
  go_wp2_with fail
  refine (HA.out _ 3 1 _ _ HAD.out.2.2.1 HAD.out.2.2.2 HN5.out).mono ?_
  rintro e w6 ⟨rfl, hn⟩
  have HN6 := Lib.hid hn
  clear hn HN5 HA c0 c1
  go_wp2_with fail
  have HE := Lib.hid (And.intro e1 (And.intro e2 e3))
  clear e1 e2 e3
  have HP0 : Hid (PreF z w1 w2 (fs17 z w1 w2) 0) := Lib.hid ⟨rfl, rfl, rfl, fun _ => rfl, fun h => by omega⟩
  generalize hbwe : W.heap.size = bw at HN6
  go_loopw [9] (fun i wr => ∃ (k : Nat) (S : PS), k ≤ len ∧ i = .int .i64 (k : Nat) ∧ Hid (FrS W bs S bw w1 w2 (.slice none 0 0) (.slice none 0 0) [] [] wr) ∧ Hid (PreF z w1 w2 S k)) (fun i _ => len - (intOf i).toNat)
  case atStart => exact ⟨0, _, by omega, rfl, HN6, HP0⟩
  case round =>
    obtain ⟨k, S, hk, rfl, HR, HP⟩ := hrel
    clear HN6 HP0 HAD
    by_cases hlt : k < len
    · have hlt' : (k : Int) < (len : Int) := by omega
      have hk0 : (0 : Int) ≤ (k : Int) := by omega
      obtain ⟨z1, z2, z3, z4, z5⟩ := HZ.out
      obtain ⟨zb, zo, rfl, hzb, hzc⟩ := z5.resolve_left (by omega)
      have hck0 := hzc k (by omega)
      have hyr := z4 (zs[k]'(by omega)) (by simp)
      generalize zs[k]'(by omega) = y at hck0 hyr
      replace hyr : 0 ≤ y ∧ y ≤ 255 := by simpa [Lit.wf, IntKind.min, IntKind.max, IntKind.signed, IntKind.bits] using hyr
      have hck : wr.cell? ⟨zb, zo + k, none⟩ = some (.int .u8 y) := (HR.out.al.b.cell (p := ⟨zb, zo + k, none⟩) hzb).trans hck0
      obtain ⟨j, t, hj, ht, hj3, ht85⟩ := byte16 y hyr.1 hyr.2
      have HPU := Lib.hid (HP.out.push HR.out.al.ok HK.out.1 HK.out.2.1 HK.out.2.2.1.1 (n1 := (j : Int) + 1) (n2 := (t : Int) + 1) (by omega) (by omega))
      have hkk : totQ S.qs ≤ 60000 ∧ 2 * k + 1 ≤ 60000 := by have := HP.out.t; have := HK.out; omega
      have H1 : Hid (Calls Try.prog 19 #[.pointer (some ⟨bs, 0, none⟩), .agg #[.int .i64 1, .int .i64 ((j : Int) + 1)]] wr fun e w' => e = .returned (.int .i64 0) ∧ FrS W bs (pushA S (1, (j : Int) + 1)) bw w1 w2 (.slice none 0 0) (.slice none 0 0) [] [] w') := Lib.hid (by
        refine (al_push' 1 ((j : Int) + 1) HR.out.al hkk.1).mono ?_
        rw [HPU.out.1]
        rintro e w' ⟨h1, h2, h3⟩
        exact ⟨h1, HR.out.step h2 h3⟩)
      have H2 : Hid (∀ w', FrS W bs (pushA S (1, (j : Int) + 1)) bw w1 w2 (.slice none 0 0) (.slice none 0 0) [] [] w' → Calls Try.prog 19 #[.pointer (some ⟨bs, 0, none⟩), .agg #[.int .i64 2, .int .i64 ((t : Int) + 1)]] w' fun e w'' => e = .returned (.int .i64 0) ∧ FrS W bs (pushA (pushA S (1, (j : Int) + 1)) (2, (t : Int) + 1)) bw w1 w2 (.slice none 0 0) (.slice none 0 0) [] [] w'') := Lib.hid fun w' hn => by
        refine (al_push' 2 ((t : Int) + 1) hn.al (by rw [HPU.out.2.1]; exact hkk.2)).mono ?_
        rw [HPU.out.2.2.1]
        rintro e w'' ⟨h1, h2, h3⟩
        exact ⟨h1, hn.step h2 h3⟩
      have HLT := Lib.hid hlt
      have HZB := Lib.hid (And.intro hzb hck0)
      clear z1 z2 z3 z4 z5 hzb hzc hck0 hkk HR HP
      have hWR := wr16 j t k len hj3 ht85 hlt HK.out.2.2.2
      obtain ⟨hj1, ht1, hj2, hj4, ht2, ht4, ht3, hj3', hk2, hk4⟩ := hWR
      have h16 : ((16 : Int) == 0) = false := rfl
      clear hj3 ht85 hyr
      go_wp2_with fail
      refine H1.out.mono ?_
      rintro e w8 ⟨rfl, hn⟩
      have HN8 := Lib.hid hn
      have hck8 : w8.cell? ⟨zb, zo + k, none⟩ = some (.int .u8 y) := (HN8.out.al.b.cell (p := ⟨zb, zo + k, none⟩) HZB.out.1).trans HZB.out.2
      clear hn H1 hck
      go_wp2_with fail
      refine (H2.out _ HN8.out).mono ?_
      rintro e w9 ⟨rfl, hn⟩
      have HN9 := Lib.hid hn
      clear hn H2 hck8 HN8 hj ht hj1 ht1 hj2 hj4 ht2 ht4 ht3 hj3' hk2 h16
      go_wp2_with fail
      go_roundw
      case measure => clear hk4; have := HLT.out; simp [intOf]; omega
      case rel => exact ⟨k + 1, _, HLT.out, by go_num, HN9, Lib.hid HPU.out.2.2.2⟩
    · obtain rfl : k = len := by omega
      have hlt' : ¬ (k : Int) < (k : Int) := by omega
      have HQ := Lib.hid HP.out.done
      clear HP hlt hk
      have HK2 : Hid ((1 ≤ w1 ∧ w1 ≤ 255) ∧ (1 ≤ w2 ∧ w2 ≤ 255) ∧ (1 ≤ z ∧ z ≤ 255) ∧ k ≤ 120) := HK
      go_upto_block 2 with fail
      go_cut [10, 11] (fun s10 s11 wx => ∃ (c : Nat) (S' : PS) (v1 v2 : Value) (L1 L2 : List Int) (p r : Int), c ≤ 400 ∧ v1 = s10 ∧ v2 = s11 ∧ Hid (FrS W bs S' bw w1 w2 v1 v2 L1 L2 wx) ∧ Hid (FrP z w1 w2 S' p r L1 L2 c (2 * k + c)))
      case first =>
        go_wp2_with fail
        go_loopw [10, 11, 12, 13, 14] (fun s10 s11 s12 s13 i wx => ∃ (c : Nat) (S' : PS) (v1 v2 : Value) (L1 L2 : List Int) (p r : Int), c ≤ 400 ∧ v1 = s10 ∧ v2 = s11 ∧ s12 = .int .i64 p ∧ s13 = .int .i64 r ∧ i = .int .i64 (c : Nat) ∧ Hid (FrS W bs S' bw w1 w2 v1 v2 L1 L2 wx) ∧ Hid (FrP z w1 w2 S' p r L1 L2 c (2 * k + c))) (fun _ _ _ _ i _ => 400 - (intOf i).toNat)
        case atStart => exact ⟨0, _, _, _, _, _, _, _, by omega, rfl, rfl, rfl, rfl, rfl, HR, HQ⟩
        case round =>
          clear HR HQ hlt'
          obtain ⟨c, S', v1, v2, L1, L2, p, r, hc, rfl, rfl, rfl, rfl, rfl, HR, HQ⟩ := hrel
          have HL1 := Lib.hid (al_len 1 HR.out.al)
          have HL2 := Lib.hid (al_len 2 HR.out.al)
          by_cases h1 : 1 < lenP 1 S'
          · have h1' : (1 : Int) < ((lenP 1 S' : Nat) : Int) := by omega
            by_cases h2' : 1 < lenP 2 S'
            · have h2'' : (1 : Int) < ((lenP 2 S' : Nat) : Int) := by omega
              by_cases h3' : c < 400
              · have h3'' : (c : Int) < 400 := by omega
                have HI := Lib.hid (And.intro h1 (And.intro h2' h3'))
                generalize lenP 1 S' = n1 at h1' HL1
                generalize lenP 2 S' = n2 at h2'' HL2
                clear h1 h2' h3' hc
                go_wp2_with fail
                refine HL1.out.mono ?_
                rintro e wr ⟨rfl, rfl⟩
                go_wp2_with fail
                refine HL2.out.mono ?_
                rintro e wr ⟨rfl, rfl⟩
                clear HL1 HL2
                obtain ⟨m1, m2, m3, m4, m5⟩ := rem17 c HI.out.2.2
                have h1'' := HR.out
                by_cases hm7 : c % 7 = 3
                · have m6 : (((c % 7 : Nat) : Int) == 3) = true := by rw [hm7]; rfl
                  have hn16 : 1 ≤ ((c % 16 : Nat) : Int) + 1 ∧ ((c % 16 : Nat) : Int) + 1 ≤ 16 := by clear m1 m2 m3 m4 m5 m6; omega
                  have HIT := Lib.hid (push3_items HR.out.al.ok HQ.out.ids hn16)
                  have HQP := Lib.hid (HQ.out.push3 HR.out.al.ok hn16)
                  have HPU : Hid (Calls Try.prog 19 #[.pointer (some ⟨bs, 0, none⟩), .agg #[.int .i64 3, .int .i64 (((c % 16 : Nat) : Int) + 1)]] wr fun e w' => ∃ E, e = .returned (.int .i64 E) ∧ FrS W bs (pushA S' (3, ((c % 16 : Nat) : Int) + 1)) bw w1 w2 v1 v2 L1 L2 w') := Lib.hid (by
                    have ht := HQ.out.t
                    refine (al_push' 3 (((c % 16 : Nat) : Int) + 1) HR.out.al (by clear m1 m2 m3 m4 m5 m6; have := HK2.out; have := HI.out; omega)).mono ?_
                    rintro e w' ⟨g1, g2, g3⟩
                    exact ⟨_, g1, HR.out.step g2 g3⟩)
                  generalize ((c % 7 : Nat) : Int) = c7 at m1 m3 m6
                  generalize ((c % 16 : Nat) : Int) = c16 at *
                  clear hn16 hm7 h1''
                  go_wp2_with fail
                  refine HPU.out.mono ?_
                  rintro e w8 ⟨E, rfl, hn⟩
                  have HQ2 := HQ
                  have HNX := Lib.hid (fair_next hn (HQP.out.more (show 2 * k + c + 1 ≤ 2 * k + (c + 1) by clear m1 m2 m3 m4 m5 m6; omega)) (by clear m1 m2 m3 m4 m5 m6; have := HK2.out; have := HI.out; omega) HK2.out.1.1 HK2.out.2.1.1 HK2.out.2.2.1.1 (by rw [HIT.out.1, ← lenP_items]; exact HI.out.1) (by rw [HIT.out.2, ← lenP_items]; exact HI.out.2.1))
                  clear hn HPU HQP HR HQ m1 m2 m3 m4 m5 m6
                  go_wp2_with fail
                  refine HNX.out.mono ?_
                  rintro e w8 ⟨S3, x1, x2, rfl, hn, hp, hx⟩
                  have hbx := Blk.new w8 #[.int .i64 x1, .int .i64 x2] 35
                  have hn9 := hn.chain (Below.chainAlloc (Below.refl _ w8) (.cells #[.int .i64 x1, .int .i64 x2] 35))
                  have HN9 := Lib.hid hn9
                  have HP9 := Lib.hid hp
                  have d0 := hbx.facts.1 0
                  have d1 := hbx.facts.1 1
                  have HX := Lib.hid hx
                  have HLL : Hid (L1.length ≤ 400 ∧ L2.length ≤ 400) := Lib.hid (lens17 HQ2.out.l1 HQ2.out.l2 HI.out.2.2)
                  have HSU := Lib.hid (sums17 p r x2 c (Nat.le_of_lt HI.out.2.2) HQ2.out.a HQ2.out.b hx)
                  have q1 := HSU.out.1
                  have q2 := HSU.out.2.1
                  have HQW := Lib.hid HSU.out.2.2
                  clear hbx hn9 hn hp hx HNX HSU
                  by_cases e1 : x1 = 1
                  · subst e1
                    have e2 : ((1 : Int) == 2) = false := rfl
                    have HA1 : Hid (p + add1 (1, x2) = p + x2) := Lib.hid (by unfold add1; rw [if_pos rfl])
                    have HA2 : Hid (r + add2 (1, x2) = r) := Lib.hid (by unfold add2; rw [if_neg (show ¬ (1 : Int) = 2 by decide), Int.add_zero])
                    rw [HA1.out, HA2.out] at HP9
                    go_upto_region 25 with fail
                    rw [q1]
                    generalize w8.alloc (.cells #[.int .i64 1, .int .i64 x2] 35) = w9 at *
                    clear q1 q2 d0 d1 e2
                    obtain ⟨av, cv, hv⟩ := HN9.out.s1.form
                    have HSG := Lib.hid HN9.out.s1
                    rw [hv] at HSG
                    have HV := Lib.hid hv
                    have hbl : W.heap.size ≤ w9.heap.size + 1 := by have := HN9.out.al.b.size; omega
                    have hm1 : L1.length + 1 ≤ maxLen := by have := HLL.out; simp only [maxLen]; omega
                    have hm2 : (L1.length + 1) * 8 ≤ 140737488355328 := by have := HLL.out; omega
                    rw [hv]
                    go_upto_region 26 with (at_builtin; refine wpList_append_seg _ rfl (.tmp 141) (.tmp 143) 29 rfl W.heap.size 3 i0 _ 1 8 Try.underlying29 hi hz0 hz1 hz2 rfl (by decide) (.slice av L1.length cv) L1.length (iv L1) rfl (HSG.out.alloc _) ⟨w9.heap.size, 0, none⟩ 1 1 [.int .i64 (p + x2)] rfl rfl (cells_new _ _ _) (by simp [Value.oneCell']) (by decide) hm1 hm2 (by rw [size_alloc]; exact hbl) (w9.heap.size + 1) (size_alloc _ _) ?_; intro g off cap w10 hown hgrow hat)
                    have hO : Only v1.ownBlock.toList w9 w10 := HV.out ▸ Only.grown (S := (Value.slice av L1.length cv).ownBlock.toList) (Only.alloc (Only.refl _ w9) _) hgrow (fun x hx => .inl (by rw [hx]; simp))
                    have HNN := Lib.hid (HN9.out.push1 (p + x2) hown hO (HV.out ▸ hat.imp id (fun e => by omega)))
                    clear hO hown hgrow hat hbl hm1 hm2 hv HSG HV HN9
                    have HN9 := HNN
                    clear HNN
                    obtain ⟨av, cv, hv⟩ := HN9.out.s2.form
                    have HSG := Lib.hid HN9.out.s2
                    rw [hv] at HSG
                    have HV := Lib.hid hv
                    have hbl : W.heap.size ≤ w10.heap.size + 1 := by have := HN9.out.al.b.size; omega
                    have hm1 : L2.length + 1 ≤ maxLen := by have := HLL.out; simp only [maxLen]; omega
                    have hm2 : (L2.length + 1) * 8 ≤ 140737488355328 := by have := HLL.out; omega
                    rw [hv]
                    go_wp2_with (at_builtin; refine wpList_append_seg _ rfl (.tmp 145) (.tmp 147) 29 rfl W.heap.size 3 i0 _ 1 8 Try.underlying29 hi hz0 hz1 hz2 rfl (by decide) (.slice av L2.length cv) L2.length (iv L2) rfl (HSG.out.alloc _) ⟨w10.heap.size, 0, none⟩ 1 1 [.int .i64 r] rfl rfl (cells_new _ _ _) (by simp [Value.oneCell']) (by decide) hm1 hm2 (by rw [size_alloc]; exact hbl) (w10.heap.size + 1) (size_alloc _ _) ?_; intro g off cap w11 hown hgrow hat)
                    have hO : Only v2.ownBlock.toList w10 w11 := HV.out ▸ Only.grown (S := (Value.slice av L2.length cv).ownBlock.toList) (Only.alloc (Only.refl _ w10) _) hgrow (fun x hx => .inl (by rw [hx]; simp))
                    have HNN := Lib.hid (HN9.out.push2 r hown hO (HV.out ▸ hat.imp id (fun e => by omega)))
                    clear hO hown hgrow hat hbl hm1 hm2 hv HSG HV HN9
                    have HN9 := HNN
                    clear HNN
                    go_roundw
                    case measure => have := HI.out.2.2; simp [intOf]; omega
                    case rel => exact ⟨c + 1, S3, _, _, _, _, _, _, HI.out.2.2, rfl, rfl, rfl, rfl, by go_num, HN9, HP9⟩
                  · by_cases e2 : x1 = 2
                    · subst e2
                      have e3 : ((2 : Int) == 1) = false := rfl
                      have HA1 : Hid (p + add1 (2, x2) = p) := Lib.hid (by unfold add1; rw [if_neg (show ¬ (2 : Int) = 1 by decide), Int.add_zero])
                      have HA2 : Hid (r + add2 (2, x2) = r + x2) := Lib.hid (by unfold add2; rw [if_pos rfl])
                      rw [HA1.out, HA2.out] at HP9
                      go_upto_region 25 with fail
                      rw [q2]
                      generalize w8.alloc (.cells #[.int .i64 2, .int .i64 x2] 35) = w9 at *
                      clear q1 q2 d0 d1 e3
                      obtain ⟨av, cv, hv⟩ := HN9.out.s1.form
                      have HSG := Lib.hid HN9.out.s1
                      rw [hv] at HSG
                      have HV := Lib.hid hv
                      have hbl : W.heap.size ≤ w9.heap.size + 1 := by have := HN9.out.al.b.size; omega
                      have hm1 : L1.length + 1 ≤ maxLen := by have := HLL.out; simp only [maxLen]; omega
                      have hm2 : (L1.length + 1) * 8 ≤ 140737488355328 := by have := HLL.out; omega
                      rw [hv]
                      go_upto_region 26 with (at_builtin; refine wpList_append_seg _ rfl (.tmp 141) (.tmp 143) 29 rfl W.heap.size 3 i0 _ 1 8 Try.underlying29 hi hz0 hz1 hz2 rfl (by decide) (.slice av L1.length cv) L1.length (iv L1) rfl (HSG.out.alloc _) ⟨w9.heap.size, 0, none⟩ 1 1 [.int .i64 p] rfl rfl (cells_new _ _ _) (by simp [Value.oneCell']) (by decide) hm1 hm2 (by rw [size_alloc]; exact hbl) (w9.heap.size + 1) (size_alloc _ _) ?_; intro g off cap w10 hown hgrow hat)
                      have hO : Only v1.ownBlock.toList w9 w10 := HV.out ▸ Only.grown (S := (Value.slice av L1.length cv).ownBlock.toList) (Only.alloc (Only.refl _ w9) _) hgrow (fun x hx => .inl (by rw [hx]; simp))
                      have HNN := Lib.hid (HN9.out.push1 p hown hO (HV.out ▸ hat.imp id (fun e => by omega)))
                      clear hO hown hgrow hat hbl hm1 hm2 hv HSG HV HN9
                      have HN9 := HNN
                      clear HNN
                      obtain ⟨av, cv, hv⟩ := HN9.out.s2.form
                      have HSG := Lib.hid HN9.out.s2
                      rw [hv] at HSG
                      have HV := Lib.hid hv
                      have hbl : W.heap.size ≤ w10.heap.size + 1 := by have := HN9.out.al.b.size; omega
                      have hm1 : L2.length + 1 ≤ maxLen := by have := HLL.out; simp only [maxLen]; omega
                      have hm2 : (L2.length + 1) * 8 ≤ 140737488355328 := by have := HLL.out; omega
                      rw [hv]
                      go_wp2_with (at_builtin; refine wpList_append_seg _ rfl (.tmp 145) (.tmp 147) 29 rfl W.heap.size 3 i0 _ 1 8 Try.underlying29 hi hz0 hz1 hz2 rfl (by decide) (.slice av L2.length cv) L2.length (iv L2) rfl (HSG.out.alloc _) ⟨w10.heap.size, 0, none⟩ 1 1 [.int .i64 (r + x2)] rfl rfl (cells_new _ _ _) (by simp [Value.oneCell']) (by decide) hm1 hm2 (by rw [size_alloc]; exact hbl) (w10.heap.size + 1) (size_alloc _ _) ?_; intro g off cap w11 hown hgrow hat)
                      have hO : Only v2.ownBlock.toList w10 w11 := HV.out ▸ Only.grown (S := (Value.slice av L2.length cv).ownBlock.toList) (Only.alloc (Only.refl _ w10) _) hgrow (fun x hx => .inl (by rw [hx]; simp))
                      have HNN := Lib.hid (HN9.out.push2 (r + x2) hown hO (HV.out ▸ hat.imp id (fun e => by omega)))
                      clear hO hown hgrow hat hbl hm1 hm2 hv HSG HV HN9
                      have HN9 := HNN
                      clear HNN
                      go_roundw
                      case measure => have := HI.out.2.2; simp [intOf]; omega
                      case rel => exact ⟨c + 1, S3, _, _, _, _, _, _, HI.out.2.2, rfl, rfl, rfl, rfl, by go_num, HN9, HP9⟩
                    · have e3 : (x1 == 1) = false := beq_eq_false_iff_ne.2 e1
                      have e4 : (x1 == 2) = false := beq_eq_false_iff_ne.2 e2
                      have HA1 : Hid (p + add1 (x1, x2) = p) := Lib.hid (by unfold add1; rw [if_neg e1, Int.add_zero])
                      have HA2 : Hid (r + add2 (x1, x2) = r) := Lib.hid (by unfold add2; rw [if_neg e2, Int.add_zero])
                      rw [HA1.out, HA2.out] at HP9
                      go_upto_region 25 with fail
                      generalize w8.alloc (.cells #[.int .i64 x1, .int .i64 x2] 35) = w9 at *
                      clear q1 q2 d0 d1 e3 e4
                      obtain ⟨av, cv, hv⟩ := HN9.out.s1.form
                      have HSG := Lib.hid HN9.out.s1
                      rw [hv] at HSG
                      have HV := Lib.hid hv
                      have hbl : W.heap.size ≤ w9.heap.size + 1 := by have := HN9.out.al.b.size; omega
                      have hm1 : L1.length + 1 ≤ maxLen := by have := HLL.out; simp only [maxLen]; omega
                      have hm2 : (L1.length + 1) * 8 ≤ 140737488355328 := by have := HLL.out; omega
                      rw [hv]
                      go_upto_region 26 with (at_builtin; refine wpList_append_seg _ rfl (.tmp 141) (.tmp 143) 29 rfl W.heap.size 3 i0 _ 1 8 Try.underlying29 hi hz0 hz1 hz2 rfl (by decide) (.slice av L1.length cv) L1.length (iv L1) rfl (HSG.out.alloc _) ⟨w9.heap.size, 0, none⟩ 1 1 [.int .i64 p] rfl rfl (cells_new _ _ _) (by simp [Value.oneCell']) (by decide) hm1 hm2 (by rw [size_alloc]; exact hbl) (w9.heap.size + 1) (size_alloc _ _) ?_; intro g off cap w10 hown hgrow hat)
                      have hO : Only v1.ownBlock.toList w9 w10 := HV.out ▸ Only.grown (S := (Value.slice av L1.length cv).ownBlock.toList) (Only.alloc (Only.refl _ w9) _) hgrow (fun x hx => .inl (by rw [hx]; simp))
                      have HNN := Lib.hid (HN9.out.push1 p hown hO (HV.out ▸ hat.imp id (fun e => by omega)))
                      clear hO hown hgrow hat hbl hm1 hm2 hv HSG HV HN9
                      have HN9 := HNN
                      clear HNN
                      obtain ⟨av, cv, hv⟩ := HN9.out.s2.form
                      have HSG := Lib.hid HN9.out.s2
                      rw [hv] at HSG
                      have HV := Lib.hid hv
                      have hbl : W.heap.size ≤ w10.heap.size + 1 := by have := HN9.out.al.b.size; omega
                      have hm1 : L2.length + 1 ≤ maxLen := by have := HLL.out; simp only [maxLen]; omega
                      have hm2 : (L2.length + 1) * 8 ≤ 140737488355328 := by have := HLL.out; omega
                      rw [hv]
                      go_wp2_with (at_builtin; refine wpList_append_seg _ rfl (.tmp 145) (.tmp 147) 29 rfl W.heap.size 3 i0 _ 1 8 Try.underlying29 hi hz0 hz1 hz2 rfl (by decide) (.slice av L2.length cv) L2.length (iv L2) rfl (HSG.out.alloc _) ⟨w10.heap.size, 0, none⟩ 1 1 [.int .i64 r] rfl rfl (cells_new _ _ _) (by simp [Value.oneCell']) (by decide) hm1 hm2 (by rw [size_alloc]; exact hbl) (w10.heap.size + 1) (size_alloc _ _) ?_; intro g off cap w11 hown hgrow hat)
                      have hO : Only v2.ownBlock.toList w10 w11 := HV.out ▸ Only.grown (S := (Value.slice av L2.length cv).ownBlock.toList) (Only.alloc (Only.refl _ w10) _) hgrow (fun x hx => .inl (by rw [hx]; simp))
                      have HNN := Lib.hid (HN9.out.push2 r hown hO (HV.out ▸ hat.imp id (fun e => by omega)))
                      clear hO hown hgrow hat hbl hm1 hm2 hv HSG HV HN9
                      have HN9 := HNN
                      clear HNN
                      go_roundw
                      case measure => have := HI.out.2.2; simp [intOf]; omega
                      case rel => exact ⟨c + 1, S3, _, _, _, _, _, _, HI.out.2.2, rfl, rfl, rfl, rfl, by go_num, HN9, HP9⟩
                · have m6 : (((c % 7 : Nat) : Int) == 3) = false := beq_eq_false_iff_ne.2 (by clear m1 m2 m3 m4 m5; omega)
                  have HQ2 := HQ
                  have HNX := Lib.hid (fair_next HR.out (HQ.out.more (show 2 * k + c ≤ 2 * k + (c + 1) by clear m1 m2 m3 m4 m5 m6; omega)) (by clear m1 m2 m3 m4 m5 m6; have := HK2.out; have := HI.out; omega) HK2.out.1.1 HK2.out.2.1.1 HK2.out.2.2.1.1 (by rw [← lenP_items]; exact HI.out.1) (by rw [← lenP_items]; exact HI.out.2.1))
                  generalize ((c % 7 : Nat) : Int) = c7 at m1 m3 m6
                  clear hm7 h1'' m2 m4 m5 HR HQ
                  go_wp2_with fail
                  clear m1 m3 m6
                  refine HNX.out.mono ?_
                  rintro e w8 ⟨S3, x1, x2, rfl, hn, hp, hx⟩
                  have hbx := Blk.new w8 #[.int .i64 x1, .int .i64 x2] 35
                  have hn9 := hn.chain (Below.chainAlloc (Below.refl _ w8) (.cells #[.int .i64 x1, .int .i64 x2] 35))
                  have HN9 := Lib.hid hn9
                  have HP9 := Lib.hid hp
                  have d0 := hbx.facts.1 0
                  have d1 := hbx.facts.1 1
                  have HX := Lib.hid hx
                  have HLL : Hid (L1.length ≤ 400 ∧ L2.length ≤ 400) := Lib.hid (lens17 HQ2.out.l1 HQ2.out.l2 HI.out.2.2)
                  have HSU := Lib.hid (sums17 p r x2 c (Nat.le_of_lt HI.out.2.2) HQ2.out.a HQ2.out.b hx)
                  have q1 := HSU.out.1
                  have q2 := HSU.out.2.1
                  have HQW := Lib.hid HSU.out.2.2
                  clear hbx hn9 hn hp hx HNX HSU
                  by_cases e1 : x1 = 1
                  · subst e1
                    have e2 : ((1 : Int) == 2) = false := rfl
                    have HA1 : Hid (p + add1 (1, x2) = p + x2) := Lib.hid (by unfold add1; rw [if_pos rfl])
                    have HA2 : Hid (r + add2 (1, x2) = r) := Lib.hid (by unfold add2; rw [if_neg (show ¬ (1 : Int) = 2 by decide), Int.add_zero])
                    rw [HA1.out, HA2.out] at HP9
                    go_upto_region 25 with fail
                    rw [q1]
                    generalize w8.alloc (.cells #[.int .i64 1, .int .i64 x2] 35) = w9 at *
                    clear q1 q2 d0 d1 e2
                    obtain ⟨av, cv, hv⟩ := HN9.out.s1.form
                    have HSG := Lib.hid HN9.out.s1
                    rw [hv] at HSG
                    have HV := Lib.hid hv
                    have hbl : W.heap.size ≤ w9.heap.size + 1 := by have := HN9.out.al.b.size; omega
                    have hm1 : L1.length + 1 ≤ maxLen := by have := HLL.out; simp only [maxLen]; omega
                    have hm2 : (L1.length + 1) * 8 ≤ 140737488355328 := by have := HLL.out; omega
                    rw [hv]
                    go_upto_region 26 with (at_builtin; refine wpList_append_seg _ rfl (.tmp 141) (.tmp 143) 29 rfl W.heap.size 3 i0 _ 1 8 Try.underlying29 hi hz0 hz1 hz2 rfl (by decide) (.slice av L1.length cv) L1.length (iv L1) rfl (HSG.out.alloc _) ⟨w9.heap.size, 0, none⟩ 1 1 [.int .i64 (p + x2)] rfl rfl (cells_new _ _ _) (by simp [Value.oneCell']) (by decide) hm1 hm2 (by rw [size_alloc]; exact hbl) (w9.heap.size + 1) (size_alloc _ _) ?_; intro g off cap w10 hown hgrow hat)
                    have hO : Only v1.ownBlock.toList w9 w10 := HV.out ▸ Only.grown (S := (Value.slice av L1.length cv).ownBlock.toList) (Only.alloc (Only.refl _ w9) _) hgrow (fun x hx => .inl (by rw [hx]; simp))
                    have HNN := Lib.hid (HN9.out.push1 (p + x2) hown hO (HV.out ▸ hat.imp id (fun e => by omega)))
                    clear hO hown hgrow hat hbl hm1 hm2 hv HSG HV HN9
                    have HN9 := HNN
                    clear HNN
                    obtain ⟨av, cv, hv⟩ := HN9.out.s2.form
                    have HSG := Lib.hid HN9.out.s2
                    rw [hv] at HSG
                    have HV := Lib.hid hv
                    have hbl : W.heap.size ≤ w10.heap.size + 1 := by have := HN9.out.al.b.size; omega
                    have hm1 : L2.length + 1 ≤ maxLen := by have := HLL.out; simp only [maxLen]; omega
                    have hm2 : (L2.length + 1) * 8 ≤ 140737488355328 := by have := HLL.out; omega
                    rw [hv]
                    go_wp2_with (at_builtin; refine wpList_append_seg _ rfl (.tmp 145) (.tmp 147) 29 rfl W.heap.size 3 i0 _ 1 8 Try.underlying29 hi hz0 hz1 hz2 rfl (by decide) (.slice av L2.length cv) L2.length (iv L2) rfl (HSG.out.alloc _) ⟨w10.heap.size, 0, none⟩ 1 1 [.int .i64 r] rfl rfl (cells_new _ _ _) (by simp [Value.oneCell']) (by decide) hm1 hm2 (by rw [size_alloc]; exact hbl) (w10.heap.size + 1) (size_alloc _ _) ?_; intro g off cap w11 hown hgrow hat)
                    have hO : Only v2.ownBlock.toList w10 w11 := HV.out ▸ Only.grown (S := (Value.slice av L2.length cv).ownBlock.toList) (Only.alloc (Only.refl _ w10) _) hgrow (fun x hx => .inl (by rw [hx]; simp))
                    have HNN := Lib.hid (HN9.out.push2 r hown hO (HV.out ▸ hat.imp id (fun e => by omega)))
                    clear hO hown hgrow hat hbl hm1 hm2 hv HSG HV HN9
                    have HN9 := HNN
                    clear HNN
                    go_roundw
                    case measure => have := HI.out.2.2; simp [intOf]; omega
                    case rel => exact ⟨c + 1, S3, _, _, _, _, _, _, HI.out.2.2, rfl, rfl, rfl, rfl, by go_num, HN9, HP9⟩
                  · by_cases e2 : x1 = 2
                    · subst e2
                      have e3 : ((2 : Int) == 1) = false := rfl
                      have HA1 : Hid (p + add1 (2, x2) = p) := Lib.hid (by unfold add1; rw [if_neg (show ¬ (2 : Int) = 1 by decide), Int.add_zero])
                      have HA2 : Hid (r + add2 (2, x2) = r + x2) := Lib.hid (by unfold add2; rw [if_pos rfl])
                      rw [HA1.out, HA2.out] at HP9
                      go_upto_region 25 with fail
                      rw [q2]
                      generalize w8.alloc (.cells #[.int .i64 2, .int .i64 x2] 35) = w9 at *
                      clear q1 q2 d0 d1 e3
                      obtain ⟨av, cv, hv⟩ := HN9.out.s1.form
                      have HSG := Lib.hid HN9.out.s1
                      rw [hv] at HSG
                      have HV := Lib.hid hv
                      have hbl : W.heap.size ≤ w9.heap.size + 1 := by have := HN9.out.al.b.size; omega
                      have hm1 : L1.length + 1 ≤ maxLen := by have := HLL.out; simp only [maxLen]; omega
                      have hm2 : (L1.length + 1) * 8 ≤ 140737488355328 := by have := HLL.out; omega
                      rw [hv]
                      go_upto_region 26 with (at_builtin; refine wpList_append_seg _ rfl (.tmp 141) (.tmp 143) 29 rfl W.heap.size 3 i0 _ 1 8 Try.underlying29 hi hz0 hz1 hz2 rfl (by decide) (.slice av L1.length cv) L1.length (iv L1) rfl (HSG.out.alloc _) ⟨w9.heap.size, 0, none⟩ 1 1 [.int .i64 p] rfl rfl (cells_new _ _ _) (by simp [Value.oneCell']) (by decide) hm1 hm2 (by rw [size_alloc]; exact hbl) (w9.heap.size + 1) (size_alloc _ _) ?_; intro g off cap w10 hown hgrow hat)
                      have hO : Only v1.ownBlock.toList w9 w10 := HV.out ▸ Only.grown (S := (Value.slice av L1.length cv).ownBlock.toList) (Only.alloc (Only.refl _ w9) _) hgrow (fun x hx => .inl (by rw [hx]; simp))
                      have HNN := Lib.hid (HN9.out.push1 p hown hO (HV.out ▸ hat.imp id (fun e => by omega)))
                      clear hO hown hgrow hat hbl hm1 hm2 hv HSG HV HN9
                      have HN9 := HNN
                      clear HNN
                      obtain ⟨av, cv, hv⟩ := HN9.out.s2.form
                      have HSG := Lib.hid HN9.out.s2
                      rw [hv] at HSG
                      have HV := Lib.hid hv
                      have hbl : W.heap.size ≤ w10.heap.size + 1 := by have := HN9.out.al.b.size; omega
                      have hm1 : L2.length + 1 ≤ maxLen := by have := HLL.out; simp only [maxLen]; omega
                      have hm2 : (L2.length + 1) * 8 ≤ 140737488355328 := by have := HLL.out; omega
                      rw [hv]
                      go_wp2_with (at_builtin; refine wpList_append_seg _ rfl (.tmp 145) (.tmp 147) 29 rfl W.heap.size 3 i0 _ 1 8 Try.underlying29 hi hz0 hz1 hz2 rfl (by decide) (.slice av L2.length cv) L2.length (iv L2) rfl (HSG.out.alloc _) ⟨w10.heap.size, 0, none⟩ 1 1 [.int .i64 (r + x2)] rfl rfl (cells_new _ _ _) (by simp [Value.oneCell']) (by decide) hm1 hm2 (by rw [size_alloc]; exact hbl) (w10.heap.size + 1) (size_alloc _ _) ?_; intro g off cap w11 hown hgrow hat)
                      have hO : Only v2.ownBlock.toList w10 w11 := HV.out ▸ Only.grown (S := (Value.slice av L2.length cv).ownBlock.toList) (Only.alloc (Only.refl _ w10) _) hgrow (fun x hx => .inl (by rw [hx]; simp))
                      have HNN := Lib.hid (HN9.out.push2 (r + x2) hown hO (HV.out ▸ hat.imp id (fun e => by omega)))
                      clear hO hown hgrow hat hbl hm1 hm2 hv HSG HV HN9
                      have HN9 := HNN
                      clear HNN
                      go_roundw
                      case measure => have := HI.out.2.2; simp [intOf]; omega
                      case rel => exact ⟨c + 1, S3, _, _, _, _, _, _, HI.out.2.2, rfl, rfl, rfl, rfl, by go_num, HN9, HP9⟩
                    · have e3 : (x1 == 1) = false := beq_eq_false_iff_ne.2 e1
                      have e4 : (x1 == 2) = false := beq_eq_false_iff_ne.2 e2
                      have HA1 : Hid (p + add1 (x1, x2) = p) := Lib.hid (by unfold add1; rw [if_neg e1, Int.add_zero])
                      have HA2 : Hid (r + add2 (x1, x2) = r) := Lib.hid (by unfold add2; rw [if_neg e2, Int.add_zero])
                      rw [HA1.out, HA2.out] at HP9
                      go_upto_region 25 with fail
                      generalize w8.alloc (.cells #[.int .i64 x1, .int .i64 x2] 35) = w9 at *
                      clear q1 q2 d0 d1 e3 e4
                      obtain ⟨av, cv, hv⟩ := HN9.out.s1.form
                      have HSG := Lib.hid HN9.out.s1
                      rw [hv] at HSG
                      have HV := Lib.hid hv
                      have hbl : W.heap.size ≤ w9.heap.size + 1 := by have := HN9.out.al.b.size; omega
                      have hm1 : L1.length + 1 ≤ maxLen := by have := HLL.out; simp only [maxLen]; omega
                      have hm2 : (L1.length + 1) * 8 ≤ 140737488355328 := by have := HLL.out; omega
                      rw [hv]
                      go_upto_region 26 with (at_builtin; refine wpList_append_seg _ rfl (.tmp 141) (.tmp 143) 29 rfl W.heap.size 3 i0 _ 1 8 Try.underlying29 hi hz0 hz1 hz2 rfl (by decide) (.slice av L1.length cv) L1.length (iv L1) rfl (HSG.out.alloc _) ⟨w9.heap.size, 0, none⟩ 1 1 [.int .i64 p] rfl rfl (cells_new _ _ _) (by simp [Value.oneCell']) (by decide) hm1 hm2 (by rw [size_alloc]; exact hbl) (w9.heap.size + 1) (size_alloc _ _) ?_; intro g off cap w10 hown hgrow hat)
                      have hO : Only v1.ownBlock.toList w9 w10 := HV.out ▸ Only.grown (S := (Value.slice av L1.length cv).ownBlock.toList) (Only.alloc (Only.refl _ w9) _) hgrow (fun x hx => .inl (by rw [hx]; simp))
                      have HNN := Lib.hid (HN9.out.push1 p hown hO (HV.out ▸ hat.imp id (fun e => by omega)))
                      clear hO hown hgrow hat hbl hm1 hm2 hv HSG HV HN9
                      have HN9 := HNN
                      clear HNN
                      obtain ⟨av, cv, hv⟩ := HN9.out.s2.form
                      have HSG := Lib.hid HN9.out.s2
                      rw [hv] at HSG
                      have HV := Lib.hid hv
                      have hbl : W.heap.size ≤ w10.heap.size + 1 := by have := HN9.out.al.b.size; omega
                      have hm1 : L2.length + 1 ≤ maxLen := by have := HLL.out; simp only [maxLen]; omega
                      have hm2 : (L2.length + 1) * 8 ≤ 140737488355328 := by have := HLL.out; omega
                      rw [hv]
                      go_wp2_with (at_builtin; refine wpList_append_seg _ rfl (.tmp 145) (.tmp 147) 29 rfl W.heap.size 3 i0 _ 1 8 Try.underlying29 hi hz0 hz1 hz2 rfl (by decide) (.slice av L2.length cv) L2.length (iv L2) rfl (HSG.out.alloc _) ⟨w10.heap.size, 0, none⟩ 1 1 [.int .i64 r] rfl rfl (cells_new _ _ _) (by simp [Value.oneCell']) (by decide) hm1 hm2 (by rw [size_alloc]; exact hbl) (w10.heap.size + 1) (size_alloc _ _) ?_; intro g off cap w11 hown hgrow hat)
                      have hO : Only v2.ownBlock.toList w10 w11 := HV.out ▸ Only.grown (S := (Value.slice av L2.length cv).ownBlock.toList) (Only.alloc (Only.refl _ w10) _) hgrow (fun x hx => .inl (by rw [hx]; simp))
                      have HNN := Lib.hid (HN9.out.push2 r hown hO (HV.out ▸ hat.imp id (fun e => by omega)))
                      clear hO hown hgrow hat hbl hm1 hm2 hv HSG HV HN9
                      have HN9 := HNN
                      clear HNN
                      go_roundw
                      case measure => have := HI.out.2.2; simp [intOf]; omega
                      case rel => exact ⟨c + 1, S3, _, _, _, _, _, _, HI.out.2.2, rfl, rfl, rfl, rfl, by go_num, HN9, HP9⟩
              · have h3'' : ¬ (c : Int) < 400 := by omega
                generalize lenP 1 S' = n1 at h1' HL1
                generalize lenP 2 S' = n2 at h2'' HL2
                clear h1 h2'
                go_wp2_with fail
                refine HL1.out.mono ?_
                rintro e wr ⟨rfl, rfl⟩
                go_wp2_with fail
                refine HL2.out.mono ?_
                rintro e wr ⟨rfl, rfl⟩
                go_wp2_with fail
                go_meet
                exact ⟨c, _, _, _, _, _, _, _, hc, rfl, rfl, HR, HQ⟩
            · have h2'' : ¬ (1 : Int) < ((lenP 2 S' : Nat) : Int) := by omega
              generalize lenP 1 S' = n1 at h1' HL1
              generalize lenP 2 S' = n2 at h2'' HL2
              clear h1 h2'
              go_wp2_with fail
              refine HL1.out.mono ?_
              rintro e wr ⟨rfl, rfl⟩
              go_wp2_with fail
              refine HL2.out.mono ?_
              rintro e wr ⟨rfl, rfl⟩
              go_wp2_with fail
              go_meet
              exact ⟨c, _, _, _, _, _, _, _, hc, rfl, rfl, HR, HQ⟩
          · have h1' : ¬ (1 : Int) < ((lenP 1 S' : Nat) : Int) := by omega
            generalize lenP 1 S' = n1 at h1' HL1
            clear h1 HL2
            go_wp2_with fail
            refine HL1.out.mono ?_
            rintro e wr ⟨rfl, rfl⟩
            go_wp2_with fail
            go_meet
            exact ⟨c, _, _, _, _, _, _, _, hc, rfl, rfl, HR, HQ⟩
      case rest =>
        clear HR HQ hlt'
        obtain ⟨c, S', v1, v2, L1, L2, p, r, hc, rfl, rfl, HR, HQ⟩ := hcut
        obtain ⟨a1, cp1, hv1⟩ := HR.out.s1.form
        obtain ⟨a2, cp2, hv2⟩ := HR.out.s2.form
        rw [HQ.out.l1] at hv1
        rw [HQ.out.l2] at hv2
        subst hv1 hv2
        have g0 := HR.out.wb.facts.1 0
        have g1 := HR.out.wb.facts.1 1
        obtain ⟨m1, m2, M, M1, M2, M3, HME⟩ := most17 z w1 w2 HK2.out.2.2.1 HK2.out.1 HK2.out.2.1
        obtain ⟨e1, e2, e3⟩ := HE.out
        have HMM := Lib.hid (M3.trans HME)
        have HC := Lib.hid hc
        clear HME hc M3
        go_wp2_with fail
        go_loopw [18] (fun i wr => ∃ j : Nat, j ≤ c ∧ i = .int .i64 (j : Nat) ∧ Hid (FrS W bs S' bw w1 w2 (.slice a1 c cp1) (.slice a2 c cp2) L1 L2 wr)) (fun i _ => c - (intOf i).toNat)
        case atStart => exact ⟨0, Nat.zero_le _, rfl, HR⟩
        case round =>
          clear HR M1 M2 g0 g1 e3
          obtain ⟨i, hic, rfl, HR⟩ := hrel
          by_cases hlt : i < c
          · have hlt' : (i : Int) < (c : Int) := Int.ofNat_lt.2 hlt
            have HI := Lib.hid hlt
            have hiw : wrap64 ((i : Int) + 1) = (i : Int) + 1 := (wr_small _ (by clear e1 e2; have := HC.out; omega)).2
            clear hic hlt
            go_wp2_with fail
            go_loopw [19] (fun k wr => ∃ t : Nat, t ≤ i ∧ k = .int .i64 (t : Nat) ∧ Hid (FrS W bs S' bw w1 w2 (.slice a1 c cp1) (.slice a2 c cp2) L1 L2 wr)) (fun k _ => i - (intOf k).toNat)
            case atStart => exact ⟨0, Nat.zero_le _, rfl, HR⟩
            case round =>
              clear HR
              obtain ⟨t, hti, rfl, HR⟩ := hrel
              by_cases htl : t < i
              · have HT := Lib.hid htl
                have hw := Lib.hid (And.intro hiw (And.intro e1 e2))
                clear hiw e1 e2
                have htl' : (t : Int) < (i : Int) := by omega
                have htc' : (t : Int) < (c : Int) := by omega
                have ht0 : (0 : Int) ≤ (t : Int) := by omega
                have hi0 : (0 : Int) ≤ (i : Int) := by omega
                obtain ⟨b1, o1, b2, o2, rfl, rfl⟩ := HR.out.shape HQ.out (by have := HI.out; omega)
                obtain ⟨x1, y1, d1, d2, r1, r2, r3⟩ := HR.out.read HQ.out i HI.out
                obtain ⟨x2, y2, d3, d4, r4, r5, r6⟩ := HR.out.read HQ.out t (by have := HI.out; omega)
                obtain ⟨k1, k2, k3, k4, k5, k6, f1, f2, f3, f4, f5, HSZ, f6⟩ := vals17 z w1 w2 x1 x2 y1 y2 (wrap64 (m2 * w2)) c HC.out HK2.out.1 HK2.out.2.1 HMM.out r1 r4 r2 r5 r3 r6
                have g0 := HR.out.wb.facts.1 0
                have g1 := HR.out.wb.facts.1 1
                have e1 := hw.out.2.1
                have e2 := hw.out.2.2
                clear r1 r2 r3 r4 r5 r6 hti htl
                go_upto_region 34 with fail
                refine wp_region_quiet_lit (by kernel_rfl) (by kernel_rfl) ?_
                iterate 30 quiet_step (exact Calls.quiet_of_same (HSZ.out _))
                refine wpQuiet_nil ?_
                intro _ hw1
                obtain ⟨nq, hw2⟩ := hw1
                subst hw2
                have HR3 := Lib.hid (HR.out.chain (below_drewN (Below.refl _ _) nq))
                clear HR d1 d2 d3 d4 g0 g1 f1 f2 f3 f4 f5 e1 e2
                have htw : wrap64 ((t : Int) + 1) = (t : Int) + 1 := (wr_small _ (by have := HC.out; have := HI.out; have := HT.out; omega)).2
                go_wp2_with fail
                go_roundw
                case measure => rw [htw]; clear htw; have := HT.out; simp [intOf]; omega
                case rel => exact ⟨t + 1, HT.out, by rw [htw]; clear htw; go_num, HR3⟩
              · obtain rfl : t = i := Nat.le_antisymm hti (Nat.le_of_not_lt htl)
                have htl' : ¬ (t : Int) < (t : Int) := Int.lt_irrefl _
                clear hti htl e1 e2
                go_wp2_with fail
                go_roundw
                case measure => rw [hiw]; clear hiw; have := HI.out; simp [intOf]; omega
                case rel => exact ⟨t + 1, HI.out, by rw [hiw]; clear hiw; go_num, HR⟩
          · clear e1 e2
            obtain rfl : i = c := Nat.le_antisymm hic (Nat.le_of_not_lt hlt)
            have hlt' : ¬ (i : Int) < (i : Int) := Int.lt_irrefl _
            have HB := Lib.hid HR.out.al.b
            clear hic hlt
            go_wp2_with fail
            refine (HAW.out _).mono ?_
            rintro e w8 ⟨rfl, hb⟩
            have HB8 := Lib.hid (Below.chain hb HB.out)
            clear hb
            go_wp2_with fail
            go_ret
            exact ⟨rfl, HB8.out⟩
end Go.Proofs.Ytgfbhclkpephnaa
