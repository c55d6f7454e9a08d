/-
  Timers: the example (chapter 13).
-/
import Derived.Test.YtphejbjbleeigaaTm6
namespace Go.Proofs.Ytphejbjbleeigaa
open Go Go.RowKit
set_option linter.unusedVariables false
set_option maxRecDepth 100000
set_option maxHeartbeats 4000000
theorem awake13_due2 {ys : List Du} (hp : ys.Perm ([⟨1, 0, 5⟩, ⟨1, 2, 3⟩] : List Du)) (hs : ys.Pairwise Du.lt) : ys = [⟨1, 2, 3⟩, ⟨1, 0, 5⟩] :=
  sorted_unique (hp.trans (List.Perm.swap _ _ _)) hs (by simp [Du.lt])
theorem awake13_least {m : Int} (h : LeastD m [⟨1, 0, 5⟩, ⟨1, 2, 3⟩]) : m = 3 := by
  obtain ⟨h1, h2⟩ := h
  have a := h1 ⟨1, 0, 5⟩ (by simp)
  have b := h1 ⟨1, 2, 3⟩ (by simp)
  dsimp only at a b
  rcases h2 with rfl | ⟨d, hd, rfl⟩
  · omega
  · simp at hd
    rcases hd with rfl | rfl
    · dsimp only at b; omega
    · rfl
theorem awake13_ok (w : World) : Calls Try.prog 44 #[] w fun e w' => e = .returned (.bool true) ∧ Below w.heap.size w w' := by
  have hg1 := fun x y w => run_eqGuard_agg (P := Try.prog) w .eql 69 x y #[.int .i64 1, .int .u32 0] #[.int .i64 1, .int .u32 0] guardKey
  have he : ∀ w, (binOp .eql 69 (.agg #[.int .i64 1, .int .u32 0]) (.agg #[.int .i64 1, .int .u32 0])).run Try.prog w = .ok (.bool true) w := fun w => by
    have := run_eql_key w (1, 0) (1, 0)
    rw [decide_eq_true rfl] at this
    exact this
  go_enter Try.func44, Try.ntmps44
  go_wp2_with fail
  refine (tnew_any w).mono ?_
  rintro e w1 ⟨rfl, ht, hb1⟩
  obtain ⟨bt, hbt⟩ : ∃ bt, w.heap.size + 1 = bt := ⟨_, rfl⟩
  obtain ⟨bm, hbm⟩ : ∃ bm, w.heap.size = bm := ⟨_, rfl⟩
  have HTM : Hid (w.heap.size ≤ bt ∧ w.heap.size ≤ bm) := Lib.hid (by omega)
  rw [hbt] at ht ⊢
  have HT1 : Hid (Tms w1 bt bm []) := Lib.hid (by rw [← hbm]; exact ht)
  have HB1 := Lib.hid hb1
  clear hbt hbm ht hb1
  go_wp2_with fail
  refine (tset_ok ⟨1, 0, 5⟩ bt bm [] w1 HT1.out (by decide) (by decide)).mono ?_
  rintro e w2 ⟨rfl, ht, ho⟩
  have HT2 : Hid (Tms w2 bt bm [⟨1, 0, 5⟩]) := Lib.hid ht
  have HB2 := Lib.hid (Below.only HB1.out ho (by simp [HTM.out.2]))
  clear ht ho HT1 HB1
  go_wp2_with fail
  refine (tset_ok ⟨1, 2, 3⟩ bt bm [⟨1, 0, 5⟩] w2 HT2.out (by decide) (by decide)).mono ?_
  rintro e w3 ⟨rfl, ht, ho⟩
  have HT3 : Hid (Tms w3 bt bm [⟨1, 0, 5⟩, ⟨1, 2, 3⟩]) := Lib.hid ht
  have HB3 := Lib.hid (Below.only HB2.out ho (by simp [HTM.out.2]))
  clear ht ho HT2 HB2
  go_wp2_with fail
  refine (tset_bad (0, 0) (-1) bt w3 (.inl (by decide))).mono ?_
  rintro e w4 ⟨rfl, hb⟩
  have HT4 := Lib.hid (HT3.out.chain hb)
  have HB4 := Lib.hid (Below.chain hb HB3.out)
  clear hb HT3 HB3
  go_wp2_with fail
  refine (tnext_any bt bm _ w4 HT4.out (by simp) (by simp)).mono ?_
  rintro e w5 ⟨m, rfl, hm, hb⟩
  obtain rfl := awake13_least hm
  have HT5 := Lib.hid (HT4.out.chain hb)
  have HB5 := Lib.hid (Below.chain hb HB4.out)
  clear hb HT4 HB4 hm
  go_wp2_with fail
  refine (tdue_any 2 bt bm _ w5 HT5.out (by simp)).mono ?_
  rintro e w6 ⟨v6, ys, rfl, hp, hs, hsg, ht, ho⟩
  have hy : ys = [] := List.Perm.eq_nil hp
  subst hy
  obtain ⟨a6, c6, rfl⟩ := hsg.form
  have HT6 : Hid (Tms w6 bt bm [⟨1, 0, 5⟩, ⟨1, 2, 3⟩]) := Lib.hid ht
  have HB6 := Lib.hid (Below.only HB5.out ho (by simp [HTM.out.2]))
  clear hp hs hsg ht ho HT5 HB5
  go_wp2_with fail
  refine (tdue_any 5 bt bm _ w6 HT6.out (by simp)).mono ?_
  rintro e w7 ⟨v7, ys, rfl, hp, hs, hsg, ht, ho⟩
  have hy := awake13_due2 hp hs
  subst hy
  obtain ⟨g7, o7, c7, rfl, _, _, hc7, _⟩ := hsg.shape (by simp)
  obtain ⟨c0, c1, c2⟩ := hsg.du (m := 0) (by simp)
  obtain ⟨d0, d1, d2⟩ := hsg.du (m := 1) (by simp)
  simp only [List.getElem_cons_zero, List.getElem_cons_succ, Nat.zero_mul, Nat.add_zero, Nat.one_mul] at c0 c1 c2 d0 d1 d2
  have HT7 : Hid (Tms w7 bt bm []) := Lib.hid ht
  have HB7 := Lib.hid (Below.only HB6.out ho (by simp [HTM.out.2]))
  clear hp hs hsg ht ho HT6 HB6
  go_wp2_with fail
  refine (tnext_no bt bm w7 HT7.out).mono ?_
  rintro e w8 ⟨rfl, rfl⟩
  go_wp2_with fail
  refine (tlen_any bt bm [] w7 HT7.out).mono ?_
  rintro e w8 ⟨rfl, rfl⟩
  go_wp2_with fail
  go_ret
  exact ⟨rfl, HB7.out⟩
end Go.Proofs.Ytphejbjbleeigaa
