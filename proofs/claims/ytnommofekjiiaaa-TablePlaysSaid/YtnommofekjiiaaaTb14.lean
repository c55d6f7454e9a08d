/-
  The law's deed: dropped, taken, looked at; every deed (chapter 18).
-/
import Derived.Test.YtnommofekjiiaaaTb13
namespace Go.Proofs.Ytnommofekjiiaaa
open Go Go.RowKit Go.MuLone
set_option linter.unusedVariables false
set_option linter.unusedSimpArgs false
set_option maxRecDepth 100000
set_option maxHeartbeats 2000000
theorem J18.more {base bt room m : Nat} {A D : List DE} {v : Value} {w : World} (h : J18 base bt room A m v D w) : J18 base bt room A (m + 1) v D w :=
  ⟨h.t.imp fun s hs => ⟨hs.h, hs.ok, hs.a, hs.r, Nat.le_succ_of_le hs.m⟩, h.d, h.b⟩
theorem do18_drop {base bt room m : Nat} {A : List DE} {v : Value} {w : World} (h : J18 base bt room A m v A w) (hl : A.length ≤ 900) (hr : room ≤ 1000000) (hm : m ≤ 1000000) (k1 k2 need xi : Int) (xt : List UInt8) :
    Calls Try.prog 8 #[ptr bt, .agg #[.int .i64 (room : Int), v], .agg #[.int .i64 2, .int .i64 k1, .int .u32 k2, .int .i64 need, .int .i64 xi, Str xt]] w (Did18 base bt room (A.filter fun f => !decide (f.1.1 = k1)) (m + 1) w) := by
  obtain ⟨a, cap, rfl⟩ := h.dform
  obtain ⟨hpd, hB⟩ := do_start w #[.int .i64 (room : Int), .slice a A.length cap] #[.int .i64 2, .int .i64 k1, .int .u32 k2, .int .i64 need, .int .i64 xi, Str xt]
  have H0 := Lib.hid (h.chain hB)
  have HR := Lib.hid (H0.out.rdrop (by omega) k1 false 0 _ (keepD_all k1))
  have HT : Hid (∀ v D w', J18 base bt room A m v D w' → Calls Try.prog 15 #[ptr bt, .int .i64 k1] w' fun e w'' => e = .returned (.int .i64 ((A.length - (A.filter fun f => !decide (f.1.1 = k1)).length : Nat) : Int)) ∧ J18 base bt room (A.filter fun f => !decide (f.1.1 = k1)) (m + 1) v D w'' ∧ Turn base KT w' w'') := Lib.hid fun v D w' h' => (h'.tdrop k1).mono fun e w'' q => ⟨q.1, q.2.1.more, q.2.2⟩
  obtain ⟨Q, hQ⟩ : ∃ Q, Did18 base bt room (A.filter fun f => !decide (f.1.1 = k1)) (m + 1) w = Q := ⟨_, rfl⟩
  generalize (A.length - (A.filter fun f => !decide (f.1.1 = k1)).length : Nat) = vn at *
  generalize (A.filter fun f => !decide (f.1.1 = k1)) = A1 at *
  have HQ := Lib.hid hQ
  rw [hQ]
  clear hQ
  have HB0 := Lib.hid hB
  have HPD := Lib.hid hpd
  have t0 := hpd.1.facts.1 0
  have t1 := hpd.1.facts.1 1
  have d0 := hpd.2.1.facts.1 0
  have d1 := hpd.2.1.facts.1 1
  have d2 := hpd.2.1.facts.1 2
  have d3 := hpd.2.1.facts.1 3
  have d4 := hpd.2.1.facts.1 4
  have d5 := hpd.2.1.facts.1 5
  clear hpd hB h hl hr hm
  go_enter Try.func8, Try.ntmps8
  go_wp2_with fail
  generalize ((w.alloc (.cells #[.int .i64 (room : Int), .slice a A.length cap] 30)).alloc (.cells #[.int .i64 2, .int .i64 k1, .int .u32 k2, .int .i64 need, .int .i64 xi, Str xt] 37)).alloc (.cells #[.int .i64 0, .slice none 0 0] 30) = W0 at *
  obtain ⟨b, hb⟩ : ∃ b, w.heap.size = b := ⟨_, rfl⟩
  rw [hb] at HB0 HPD ⊢
  have HBN := Lib.hid hb
  clear hb
  clear H0
  refine HR.out.mono ?_
  rintro e w1 ⟨a1, c1, rfl, h1, hb1⟩
  have hy := Blk.new w1 #[.int .i64 (room : Int), .slice a1 A1.length c1] 30
  have hb2 := Below.chainAlloc (Below.refl _ w1) (.cells #[.int .i64 (room : Int), .slice a1 A1.length c1] 30)
  have H2 := Lib.hid (h1.chain hb2)
  have HP2 := Lib.hid ((HPD.out.below hb1).below hb2)
  have HB2 : Hid (Below b w (w1.alloc (.cells #[.int .i64 (room : Int), .slice a1 A1.length c1] 30))) := Lib.hid (by have := Below.chain hb2 (Below.chain hb1 (by rw [HBN.out]; exact HB0.out)); rw [HBN.out] at this; exact this)
  have HY := Lib.hid hy
  clear h1 hb1 hb2 hy HR t0 t1 d0 d1 d2 d3 d4 d5
  have kp := HP2.out
  have d0 := kp.2.1.facts.1 0
  have d1 := kp.2.1.facts.1 1
  have d2 := kp.2.1.facts.1 2
  have d3 := kp.2.1.facts.1 3
  have d4 := kp.2.1.facts.1 4
  have d5 := kp.2.1.facts.1 5
  have r0 := kp.2.2.facts.1 0
  have fr0 := kp.2.2.facts.2.1 0
  have r1 := kp.2.2.facts.1 1
  have fr1 := kp.2.2.facts.2.1 1
  clear kp
  go_upto_region 12 with fail
  generalize w1.alloc (.cells #[.int .i64 (room : Int), .slice a1 A1.length c1] 30) = W2 at *
  generalize w1.heap.size = b3 at *
  have HCA := Lib.hid (HT.out _ _ W2.drew (H2.out.chain (Below.refl _ W2).drew))
  have y0 := HY.out.facts.1 0
  have y1 := HY.out.facts.1 1
  go_region_law ((go_simp; go_at_call 15; (with_reducible refine HCA.out.mono ?_); rintro e w5 ⟨rfl, h5, ht5⟩; have ht52 : Turn base KT W2 w5 := (Turn.of_below (Below.refl _ W2).drew).trans ht5; have m2 := HP2.out.turn ht52; have m3 := ht52.blk HY.out (by decide); have HE := Lib.hid (And.intro h5 (And.intro ((Turn.of_below (base := base) (K := KT) (by rw [HBN.out]; exact HB2.out)).trans ht52) m2.2.2)); have y0 := m3.facts.1 0; have y1 := m3.facts.1 1; have r0 := m2.2.2.facts.1 0; have r1 := m2.2.2.facts.1 1; have fr0 := m2.2.2.facts.2.1 0; have fr1 := m2.2.2.facts.2.1 1; clear h5 ht5 ht52 m2 m3))
  all_goals
    go_wp2_with fail
    refine bodyPost_ret (v := .tuple #[.agg #[.int .i64 (room : Int), .slice a1 A1.length c1], .bool true]) (by simp [results, Try.results8, go_sem, r0, r1]) rfl ?_
    rw [← HQ.out]
    exact did_fin HE.out.1 HE.out.2.1 HE.out.2.2 (by have := HBN.out; omega)
theorem do18_take {base bt room m : Nat} {A : List DE} {v : Value} {w : World} (h : J18 base bt room A m v A w) (hl : A.length ≤ 900) (hr : room ≤ 1000000) (hm : m ≤ 1000000) (k1 k2 need xi : Int) (xt : List UInt8) :
    Calls Try.prog 8 #[ptr bt, .agg #[.int .i64 (room : Int), v], .agg #[.int .i64 1, .int .i64 k1, .int .u32 k2, .int .i64 need, .int .i64 xi, Str xt]] w (Did18 base bt room (A.filter fun f => !decide (f.1 = (k1, k2))) (m + 1) w) := by
  obtain ⟨a, cap, rfl⟩ := h.dform
  obtain ⟨hpd, hB⟩ := do_start w #[.int .i64 (room : Int), .slice a A.length cap] #[.int .i64 1, .int .i64 k1, .int .u32 k2, .int .i64 need, .int .i64 xi, Str xt]
  have H0 := Lib.hid (h.chain hB)
  have HR := Lib.hid (H0.out.rget (by omega) k1 k2)
  have HT : Hid (∀ v D w', J18 base bt room A m v D w' → Calls Try.prog 14 #[ptr bt, .agg #[.int .i64 k1, .int .u32 k2]] w' fun e w'' => ∃ sv, e = .returned (.tuple #[sv, .bool (getD (k1, k2) A).isSome]) ∧ ShS w'' base sv (foundL (k1, k2) A) ∧ J18 base bt room (A.filter fun f => !decide (f.1 = (k1, k2))) (m + 1) v D w'' ∧ Turn base KT w' w'') := Lib.hid fun v D w' h' => (h'.ttake k1 k2).mono fun e w'' ⟨sv, q1, q2, q3, q4⟩ => ⟨sv, q1, q2, q3.more, q4⟩
  have HDR : Hid (∀ A' m' v w', J18 base bt room A' m' v A w' → Calls Try.prog 18 #[.agg #[.int .i64 (room : Int), v], .int .i64 k1, .bool true, .int .u32 k2] w' fun e w'' => ∃ a1 c1 n, e = .returned (.tuple #[.agg #[.int .i64 (room : Int), .slice a1 (A.filter fun f => !decide (f.1 = (k1, k2))).length c1], .int .i64 n]) ∧ J18 base bt room A' m' (.slice a1 (A.filter fun f => !decide (f.1 = (k1, k2))).length c1) (A.filter fun f => !decide (f.1 = (k1, k2))) w'' ∧ Below w'.heap.size w' w'') := Lib.hid fun A' m' v w' h' => (h'.rdrop (by omega) k1 true k2 _ (keepD_one k1 k2)).mono fun e w'' ⟨a1, c1, q1, q2, q3⟩ => ⟨a1, c1, _, q1, q2, q3⟩
  have HLN := Lib.hid (found_len (h.dok (by omega)) (k1, k2))
  obtain ⟨Q, hQ⟩ : ∃ Q, Did18 base bt room (A.filter fun f => !decide (f.1 = (k1, k2))) (m + 1) w = Q := ⟨_, rfl⟩
  generalize (A.filter fun f => !decide (f.1 = (k1, k2))) = A1 at *
  generalize (getD (k1, k2) A).isSome = g at *
  generalize foundL (k1, k2) A = L at *
  have HQ := Lib.hid hQ
  rw [hQ]
  clear hQ
  have HB0 := Lib.hid hB
  have HPD := Lib.hid hpd
  have t0 := hpd.1.facts.1 0
  have t1 := hpd.1.facts.1 1
  have d0 := hpd.2.1.facts.1 0
  have d1 := hpd.2.1.facts.1 1
  have d2 := hpd.2.1.facts.1 2
  have d3 := hpd.2.1.facts.1 3
  have d4 := hpd.2.1.facts.1 4
  have d5 := hpd.2.1.facts.1 5
  clear hpd hB h hl hr hm
  go_enter Try.func8, Try.ntmps8
  go_wp2_with fail
  generalize ((w.alloc (.cells #[.int .i64 (room : Int), .slice a A.length cap] 30)).alloc (.cells #[.int .i64 1, .int .i64 k1, .int .u32 k2, .int .i64 need, .int .i64 xi, Str xt] 37)).alloc (.cells #[.int .i64 0, .slice none 0 0] 30) = W0 at *
  obtain ⟨b, hb⟩ : ∃ b, w.heap.size = b := ⟨_, rfl⟩
  rw [hb] at HB0 HPD ⊢
  have HBN := Lib.hid hb
  clear hb
  refine HR.out.mono ?_
  rintro e w1 ⟨sv1, rfl, hs1, hb1⟩
  have H1 := Lib.hid (H0.out.chain hb1)
  have HS1 := Lib.hid hs1
  have HP1 := Lib.hid (HPD.out.below hb1)
  have HB1 : Hid (Below b w w1) := Lib.hid (by have := Below.chain hb1 (by rw [HBN.out]; exact HB0.out); rw [HBN.out] at this; exact this)
  clear hs1 hb1 HR H0 t0 t1 d0 d1 d2 d3 d4 d5
  have kp := HP1.out
  have d0 := kp.2.1.facts.1 0
  have d1 := kp.2.1.facts.1 1
  have d2 := kp.2.1.facts.1 2
  have d3 := kp.2.1.facts.1 3
  have d4 := kp.2.1.facts.1 4
  have d5 := kp.2.1.facts.1 5
  clear kp
  go_wp2_with fail
  refine (HT.out _ _ w1 H1.out).mono ?_
  rintro e w2 ⟨sv2, rfl, hs2, h2, ht2⟩
  have HS2 := Lib.hid (And.intro (ht2.seg HS1.out (by decide)) hs2)
  have H2 := Lib.hid h2
  have HP2 := Lib.hid (HP1.out.turn ht2)
  have HT2 : Hid (Turn base KT w w2) := Lib.hid ((Turn.of_below (by rw [HBN.out]; exact HB1.out)).trans ht2)
  clear hs2 h2 ht2 HT d0 d1 d2 d3 d4 d5
  have kp := HP2.out
  have t0 := kp.1.facts.1 0
  have t1 := kp.1.facts.1 1
  have d0 := kp.2.1.facts.1 0
  have d1 := kp.2.1.facts.1 1
  have d2 := kp.2.1.facts.1 2
  have d3 := kp.2.1.facts.1 3
  have d4 := kp.2.1.facts.1 4
  have d5 := kp.2.1.facts.1 5
  clear kp
  go_wp2_with fail
  refine (HDR.out _ _ _ w2 H2.out).mono ?_
  rintro e w3 ⟨a1, c1, n1, rfl, h3, hb3⟩
  have hy := Blk.new w3 #[.int .i64 (room : Int), .slice a1 A1.length c1] 30
  have hb4 := Below.chainAlloc (Below.refl _ w3) (.cells #[.int .i64 (room : Int), .slice a1 A1.length c1] 30)
  have H4 := Lib.hid (h3.chain hb4)
  have HP4 := Lib.hid ((HP2.out.below hb3).below hb4)
  have HT4 := Lib.hid ((HT2.out.step hb3).step hb4)
  have HS4 := Lib.hid (And.intro ((HS2.out.1.chain hb3).chain hb4) ((HS2.out.2.chain hb3).chain hb4))
  have HY := Lib.hid hy
  clear h3 hb3 hb4 hy t0 t1 d0 d1 d2 d3 d4 d5
  have kp := HP4.out
  have r0 := kp.2.2.facts.1 0
  have fr0 := kp.2.2.facts.2.1 0
  have r1 := kp.2.2.facts.1 1
  have fr1 := kp.2.2.facts.2.1 1
  clear kp
  go_upto_region 9 with fail
  generalize w3.alloc (.cells #[.int .i64 (room : Int), .slice a1 A1.length c1] 30) = W4 at *
  generalize w3.heap.size = b3 at *
  have HCA := Lib.hid (rsame_yes base base sv1 sv2 L W4.drew (HS4.out.1.chain (Below.refl _ W4).drew) (HS4.out.2.chain (Below.refl _ W4).drew) HLN.out)
  have y0 := HY.out.facts.1 0
  have y1 := HY.out.facts.1 1
  go_region_law ((go_simp; go_at_call 19; (with_reducible refine HCA.out.mono ?_); rintro e w5 ⟨rfl, hb5⟩; have hb52 : Below W4.heap.size W4 w5 := Below.chain hb5 (Below.refl _ W4).drew; have m2 := HP4.out.below hb52; have m3 := HY.out.below hb52 HY.out.lt; have HE := Lib.hid (And.intro (H4.out.chain hb52) (And.intro (HT4.out.step hb52) m2.2.2)); have y0 := m3.facts.1 0; have y1 := m3.facts.1 1; have r0 := m2.2.2.facts.1 0; have r1 := m2.2.2.facts.1 1; have fr0 := m2.2.2.facts.2.1 0; have fr1 := m2.2.2.facts.2.1 1; clear hb5 hb52 m2 m3))
  all_goals
    go_wp2_with fail
    refine bodyPost_ret (v := .tuple #[.agg #[.int .i64 (room : Int), .slice a1 A1.length c1], .bool true]) (by simp [results, Try.results8, go_sem, r0, r1]) rfl ?_
    rw [← HQ.out]
    exact did_fin HE.out.1 HE.out.2.1 HE.out.2.2 (by have := HBN.out; omega)
theorem do18_get {base bt room m : Nat} {A : List DE} {v : Value} {w : World} (h : J18 base bt room A m v A w) (hl : A.length ≤ 900) (hr : room ≤ 1000000) (hm : m ≤ 1000000) (kd : Int) (hk : kd ≠ 0 ∧ kd ≠ 1 ∧ kd ≠ 2) (k1 k2 need xi : Int) (xt : List UInt8) :
    Calls Try.prog 8 #[ptr bt, .agg #[.int .i64 (room : Int), v], .agg #[.int .i64 kd, .int .i64 k1, .int .u32 k2, .int .i64 need, .int .i64 xi, Str xt]] w (Did18 base bt room A (m + 1) w) := by
  obtain ⟨a, cap, rfl⟩ := h.dform
  obtain ⟨hpd, hB⟩ := do_start w #[.int .i64 (room : Int), .slice a A.length cap] #[.int .i64 kd, .int .i64 k1, .int .u32 k2, .int .i64 need, .int .i64 xi, Str xt]
  have H0 := Lib.hid (h.chain hB)
  have n0 : (kd == 0) = false := beq_eq_false_iff_ne.2 hk.1
  have n1 : (kd == 1) = false := beq_eq_false_iff_ne.2 hk.2.1
  have n2 : (kd == 2) = false := beq_eq_false_iff_ne.2 hk.2.2
  clear hk
  have HR := Lib.hid (H0.out.rget (by omega) k1 k2)
  have HT : Hid (∀ v D w', J18 base bt room A m v D w' → Calls Try.prog 13 #[ptr bt, .agg #[.int .i64 k1, .int .u32 k2]] w' fun e w'' => ∃ sv, e = .returned (.tuple #[sv, .bool (getD (k1, k2) A).isSome]) ∧ ShS w'' base sv (foundL (k1, k2) A) ∧ J18 base bt room A (m + 1) v D w'' ∧ Turn base KT w' w'') := Lib.hid fun v D w' h' => (h'.tget k1 k2).mono fun e w'' ⟨sv, q1, q2, q3, q4⟩ => ⟨sv, q1, q2, q3.more, q4⟩
  have HLN := Lib.hid (found_len (h.dok (by omega)) (k1, k2))
  obtain ⟨Q, hQ⟩ : ∃ Q, Did18 base bt room A (m + 1) w = Q := ⟨_, rfl⟩
  generalize (getD (k1, k2) A).isSome = g at *
  generalize foundL (k1, k2) A = L at *
  have HQ := Lib.hid hQ
  rw [hQ]
  clear hQ
  have HB0 := Lib.hid hB
  have HPD := Lib.hid hpd
  have t0 := hpd.1.facts.1 0
  have t1 := hpd.1.facts.1 1
  have d0 := hpd.2.1.facts.1 0
  have d1 := hpd.2.1.facts.1 1
  have d2 := hpd.2.1.facts.1 2
  have d3 := hpd.2.1.facts.1 3
  have d4 := hpd.2.1.facts.1 4
  have d5 := hpd.2.1.facts.1 5
  clear hpd hB h hl hr hm
  go_enter Try.func8, Try.ntmps8
  go_wp2_with fail
  generalize ((w.alloc (.cells #[.int .i64 (room : Int), .slice a A.length cap] 30)).alloc (.cells #[.int .i64 kd, .int .i64 k1, .int .u32 k2, .int .i64 need, .int .i64 xi, Str xt] 37)).alloc (.cells #[.int .i64 0, .slice none 0 0] 30) = W0 at *
  obtain ⟨b, hb⟩ : ∃ b, w.heap.size = b := ⟨_, rfl⟩
  rw [hb] at HB0 HPD ⊢
  have HBN := Lib.hid hb
  clear hb
  refine HR.out.mono ?_
  rintro e w1 ⟨sv1, rfl, hs1, hb1⟩
  have H1 := Lib.hid (H0.out.chain hb1)
  have HS1 := Lib.hid hs1
  have HP1 := Lib.hid (HPD.out.below hb1)
  have HB1 : Hid (Below b w w1) := Lib.hid (by have := Below.chain hb1 (by rw [HBN.out]; exact HB0.out); rw [HBN.out] at this; exact this)
  clear hs1 hb1 HR H0 t0 t1 d0 d1 d2 d3 d4 d5
  have kp := HP1.out
  have d0 := kp.2.1.facts.1 0
  have d1 := kp.2.1.facts.1 1
  have d2 := kp.2.1.facts.1 2
  have d3 := kp.2.1.facts.1 3
  have d4 := kp.2.1.facts.1 4
  have d5 := kp.2.1.facts.1 5
  clear kp
  go_wp2_with fail
  refine (HT.out _ _ w1 H1.out).mono ?_
  rintro e w2 ⟨sv2, rfl, hs2, h2, ht2⟩
  have HS4 := Lib.hid (And.intro (ht2.seg HS1.out (by decide)) hs2)
  have H4 := Lib.hid h2
  have HP4 := Lib.hid (HP1.out.turn ht2)
  have HT4 : Hid (Turn base KT w w2) := Lib.hid ((Turn.of_below (by rw [HBN.out]; exact HB1.out)).trans ht2)
  clear hs2 h2 ht2 HT d0 d1 d2 d3 d4 d5
  have kp := HP4.out
  have t0 := kp.1.facts.1 0
  have t1 := kp.1.facts.1 1
  have r0 := kp.2.2.facts.1 0
  have fr0 := kp.2.2.facts.2.1 0
  have r1 := kp.2.2.facts.1 1
  have fr1 := kp.2.2.facts.2.1 1
  clear kp
  go_upto_region 15 with fail
  have HCA := Lib.hid (rsame_yes base base sv1 sv2 L w2.drew (HS4.out.1.chain (Below.refl _ w2).drew) (HS4.out.2.chain (Below.refl _ w2).drew) HLN.out)
  go_region_law ((go_simp; go_at_call 19; (with_reducible refine HCA.out.mono ?_); rintro e w5 ⟨rfl, hb5⟩; have hb52 : Below w2.heap.size w2 w5 := Below.chain hb5 (Below.refl _ w2).drew; have m2 := HP4.out.below hb52; have HE := Lib.hid (And.intro (H4.out.chain hb52) (And.intro (HT4.out.step hb52) m2.2.2)); have t0 := m2.1.facts.1 0; have t1 := m2.1.facts.1 1; have r0 := m2.2.2.facts.1 0; have r1 := m2.2.2.facts.1 1; have fr0 := m2.2.2.facts.2.1 0; have fr1 := m2.2.2.facts.2.1 1; clear hb5 hb52 m2))
  all_goals
    go_wp2_with fail
    refine bodyPost_ret (v := .tuple #[.agg #[.int .i64 (room : Int), .slice a A.length cap], .bool true]) (by simp [results, Try.results8, go_sem, r0, r1]) rfl ?_
    rw [← HQ.out]
    exact did_fin HE.out.1 HE.out.2.1 HE.out.2.2 (by have := HBN.out; omega)
def stepA (room : Nat) (A : List DE) (kd k1 k2 need xi : Int) (xt : List UInt8) : List DE :=
  if kd = 0 then putA room A (k1, k2) need (xi, xt) else if kd = 1 then A.filter fun f => !decide (f.1 = (k1, k2)) else if kd = 2 then A.filter fun f => !decide (f.1.1 = k1) else A
theorem putA_le (room : Nat) (A : List DE) (k : Int × Int) (need : Int) (x : Sh) : (putA room A k need x).length ≤ A.length + 1 := by
  unfold putA
  split
  · exact Nat.le_succ _
  · split
    · rw [List.length_map]; exact Nat.le_succ _
    · split
      · exact Nat.le_succ _
      · rw [List.length_append]; exact Nat.le_refl _
theorem stepA_le (room : Nat) (A : List DE) (kd k1 k2 need xi : Int) (xt : List UInt8) : (stepA room A kd k1 k2 need xi xt).length ≤ A.length + 1 := by
  unfold stepA
  split
  · exact putA_le room A (k1, k2) need (xi, xt)
  · split
    · exact Nat.le_succ_of_le (List.length_filter_le _ _)
    · split
      · exact Nat.le_succ_of_le (List.length_filter_le _ _)
      · exact Nat.le_succ _
theorem do18_any {base bt room m : Nat} {A : List DE} {v : Value} {w : World} (h : J18 base bt room A m v A w) (hl : A.length ≤ 900) (hr : room ≤ 1000000) (hm : m ≤ 1000000) (kd : Int) (k1 k2 need xi : Int) (xt : List UInt8) :
    Calls Try.prog 8 #[ptr bt, .agg #[.int .i64 (room : Int), v], .agg #[.int .i64 kd, .int .i64 k1, .int .u32 k2, .int .i64 need, .int .i64 xi, Str xt]] w (Did18 base bt room (stepA room A kd k1 k2 need xi xt) (m + 1) w) := by
  unfold stepA
  by_cases h0 : kd = 0
  · rw [if_pos h0]; subst h0; exact do18_put h hl hr hm k1 k2 need xi xt
  · rw [if_neg h0]
    by_cases h1 : kd = 1
    · rw [if_pos h1]; subst h1; exact do18_take h hl hr hm k1 k2 need xi xt
    · rw [if_neg h1]
      by_cases h2 : kd = 2
      · rw [if_pos h2]; subst h2; exact do18_drop h hl hr hm k1 k2 need xi xt
      · rw [if_neg h2]; exact do18_get h hl hr hm kd ⟨h0, h1, h2⟩ k1 k2 need xi xt
end Go.Proofs.Ytnommofekjiiaaa
