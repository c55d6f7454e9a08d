/-
  The law's deed: a shard comes (chapter 18).
-/
import Derived.Test.YtnommofekjiiaaaTb12
namespace Go.Proofs.Ytnommofekjiiaaa
open Go Go.RowKit Go.MuLone
set_option linter.unusedVariables false
set_option linter.unusedSimpArgs false
set_option maxRecDepth 100000
set_option maxHeartbeats 2000000
/-- The deed's boxes, and the answer's cell. -/
def PD (W : World) (b : Nat) (t d : Array Value) : Prop := Blk W b t 30 ∧ Blk W (b + 1) d 37 ∧ Blk W (b + 1 + 1) #[.int .i64 0, .slice none 0 0] 30
theorem PD.below {W W' : World} {b : Nat} {t d : Array Value} (h : PD W b t d) (hb : Below W.heap.size W W') : PD W' b t d := ⟨h.1.below hb h.1.lt, h.2.1.below hb h.2.1.lt, h.2.2.below hb h.2.2.lt⟩
theorem PD.turn {base : Nat} {W W' : World} {b : Nat} {t d : Array Value} (h : PD W b t d) (ht : Turn base KT W W') : PD W' b t d := ⟨ht.blk h.1 (by decide), ht.blk h.2.1 (by decide), ht.blk h.2.2 (by decide)⟩
theorem do_start (w : World) (t d : Array Value) : PD (((w.alloc (.cells t 30)).alloc (.cells d 37)).alloc (.cells #[.int .i64 0, .slice none 0 0] 30)) w.heap.size t d ∧
    Below w.heap.size w (((w.alloc (.cells t 30)).alloc (.cells d 37)).alloc (.cells #[.int .i64 0, .slice none 0 0] 30)) :=
  ⟨⟨((Blk.new w _ _).alloc _).alloc _, (Blk.newAt (size_alloc _ _).symm).alloc _, Blk.newAt (by rw [size_alloc, size_alloc])⟩, Below.chainAlloc (Below.chainAlloc (Below.chainAlloc (Below.refl _ w) _) _) _⟩
theorem do18_put {base bt room m : Nat} {A : List DE} {v : Value} {w : World} (h : J18 base bt room A m v A w) (hl : A.length ≤ 900) (hr : room ≤ 1000000) (hm : m ≤ 1000000) (k1 k2 need xi : Int) (xt : List UInt8) :
    Calls Try.prog 8 #[ptr bt, .agg #[.int .i64 (room : Int), v], .agg #[.int .i64 0, .int .i64 k1, .int .u32 k2, .int .i64 need, .int .i64 xi, Str xt]] w (Did18 base bt room (putA room A (k1, k2) need (xi, xt)) (m + 1) w) := by
  obtain ⟨a, cap, rfl⟩ := h.dform
  obtain ⟨hpd, hB⟩ := do_start w #[.int .i64 (room : Int), .slice a A.length cap] #[.int .i64 0, .int .i64 k1, .int .u32 k2, .int .i64 need, .int .i64 xi, Str xt]
  have H0 := Lib.hid (h.chain hB)
  have HR := Lib.hid (H0.out.rput hl hr k1 k2 need xi xt)
  have HT : Hid (∀ v D w', J18 base bt room A m v D w' → Calls Try.prog 12 #[ptr bt, .agg #[.int .i64 k1, .int .u32 k2], .int .i64 need, .agg #[.int .i64 xi, Str xt]] w' fun e w'' => e = .returned (.int .i64 (putV room A (k1, k2) need (xi, xt) : Nat)) ∧ J18 base bt room (putA room A (k1, k2) need (xi, xt)) (m + 1) v D w'' ∧ Turn base KT w' w'') := Lib.hid fun v D w' h' => h'.tput hm k1 k2 need xi xt
  obtain ⟨Q, hQ⟩ : ∃ Q, Did18 base bt room (putA room A (k1, k2) need (xi, xt)) (m + 1) w = Q := ⟨_, rfl⟩
  have HQ := Lib.hid hQ
  rw [hQ]
  clear hQ
  have HB0 := Lib.hid hB
  have HPD := Lib.hid hpd
  have t0 := hpd.1.facts.1 0
  have t1 := hpd.1.facts.1 1
  have d0 := hpd.2.1.facts.1 0
  have d1 := hpd.2.1.facts.1 1
  have d2 := hpd.2.1.facts.1 2
  have d3 := hpd.2.1.facts.1 3
  have d4 := hpd.2.1.facts.1 4
  have d5 := hpd.2.1.facts.1 5
  clear hpd hB h hl hr hm
  go_enter Try.func8, Try.ntmps8
  go_wp2_with fail
  generalize ((w.alloc (.cells #[.int .i64 (room : Int), .slice a A.length cap] 30)).alloc (.cells #[.int .i64 0, .int .i64 k1, .int .u32 k2, .int .i64 need, .int .i64 xi, Str xt] 37)).alloc (.cells #[.int .i64 0, .slice none 0 0] 30) = W0 at *
  obtain ⟨b, hb⟩ : ∃ b, w.heap.size = b := ⟨_, rfl⟩
  rw [hb] at HB0 HPD ⊢
  have HBN := Lib.hid hb
  clear hb
  clear H0
  generalize putA room A (k1, k2) need (xi, xt) = A1 at *
  generalize putV room A (k1, k2) need (xi, xt) = vn at *
  refine HR.out.mono ?_
  rintro e w1 ⟨a1, c1, rfl, h1, hb1⟩
  have hy := Blk.new w1 #[.int .i64 (room : Int), .slice a1 A1.length c1] 30
  have hb2 := Below.chainAlloc (Below.refl _ w1) (.cells #[.int .i64 (room : Int), .slice a1 A1.length c1] 30)
  have H2 := Lib.hid (h1.chain hb2)
  have HP2 := Lib.hid ((HPD.out.below hb1).below hb2)
  have HB2 : Hid (Below b w (w1.alloc (.cells #[.int .i64 (room : Int), .slice a1 A1.length c1] 30))) := Lib.hid (by have := Below.chain hb2 (Below.chain hb1 (by rw [HBN.out]; exact HB0.out)); rw [HBN.out] at this; exact this)
  have HY := Lib.hid hy
  clear h1 hb1 hb2 hy HR t0 t1 d0 d1 d2 d3 d4 d5
  have kp := HP2.out
  have d0 := kp.2.1.facts.1 0
  have d1 := kp.2.1.facts.1 1
  have d2 := kp.2.1.facts.1 2
  have d3 := kp.2.1.facts.1 3
  have d4 := kp.2.1.facts.1 4
  have d5 := kp.2.1.facts.1 5
  have r0 := kp.2.2.facts.1 0
  have fr0 := kp.2.2.facts.2.1 0
  have r1 := kp.2.2.facts.1 1
  have fr1 := kp.2.2.facts.2.1 1
  clear kp
  go_upto_region 4 with fail
  generalize w1.alloc (.cells #[.int .i64 (room : Int), .slice a1 A1.length c1] 30) = W2 at *
  generalize w1.heap.size = b3 at *
  have HCA := Lib.hid (HT.out _ _ W2.drew (H2.out.chain (Below.refl _ W2).drew))
  have y0 := HY.out.facts.1 0
  have y1 := HY.out.facts.1 1
  go_region_law ((go_simp; go_at_call 12; (with_reducible refine HCA.out.mono ?_); rintro e w5 ⟨rfl, h5, ht5⟩; have ht52 : Turn base KT W2 w5 := (Turn.of_below (Below.refl _ W2).drew).trans ht5; have m2 := HP2.out.turn ht52; have m3 := ht52.blk HY.out (by decide); have HE := Lib.hid (And.intro h5 (And.intro ((Turn.of_below (base := base) (K := KT) (by rw [HBN.out]; exact HB2.out)).trans ht52) m2.2.2)); have y0 := m3.facts.1 0; have y1 := m3.facts.1 1; have r0 := m2.2.2.facts.1 0; have r1 := m2.2.2.facts.1 1; have fr0 := m2.2.2.facts.2.1 0; have fr1 := m2.2.2.facts.2.1 1; clear h5 ht5 ht52 m2 m3))
  all_goals
    go_wp2_with fail
    refine bodyPost_ret (v := .tuple #[.agg #[.int .i64 (room : Int), .slice a1 A1.length c1], .bool true]) (by simp [results, Try.results8, go_sem, r0, r1]) rfl ?_
    rw [← HQ.out]
    exact did_fin HE.out.1 HE.out.2.1 HE.out.2.2 (by have := HBN.out; omega)
end Go.Proofs.Ytnommofekjiiaaa
