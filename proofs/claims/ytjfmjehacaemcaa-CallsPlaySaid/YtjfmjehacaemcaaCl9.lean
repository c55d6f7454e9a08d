/-
  Calls that wait: the example (chapter 29).
-/
import Derived.Test.YtjfmjehacaemcaaCl5
namespace Go.Proofs.Ytjfmjehacaemcaa
open Go Go.RowKit
set_option linter.unusedVariables false
set_option maxRecDepth 100000
set_option maxHeartbeats 4000000
def wa : Wt := ⟨1, 3, 2, 5, []⟩
def wb : Wt := ⟨2, 2, 2, 0, [120]⟩
theorem awake29_all {ys : List Wt} (hp : ys.Perm [wa, wb]) (hs : ys.Pairwise Wt.lt) : ys = [wb, wa] :=
  wsorted_unique (hp.trans (List.Perm.swap _ _ _)) hs (by simp [Wt.lt, wa, wb])
theorem awake29_ok (w : World) : Calls Try.prog 5 #[] w fun e w' => e = .returned (.bool true) ∧ Below w.heap.size w w' := by
  have hg1 := fun x y w => run_eqGuard_agg (P := Try.prog) w .eql 30 x y #[.int .i64 1, .int .i64 3, .int .i64 2, .int .i64 5, .string ⟨#[]⟩] #[.int .i64 1, .int .i64 3, .int .i64 2, .int .i64 5, .string ⟨#[]⟩] guardWait
  have he : ∀ w, (binOp .eql 30 (.agg #[.int .i64 1, .int .i64 3, .int .i64 2, .int .i64 5, .string ⟨#[]⟩]) (.agg #[.int .i64 1, .int .i64 3, .int .i64 2, .int .i64 5, .string ⟨#[]⟩])).run Try.prog w = .ok (.bool true) w := fun w => by
    have := run_eql_wait w wa wa
    rw [decide_eq_true rfl] at this
    exact this
  go_enter Try.func5, Try.ntmps5
  go_wp2_with fail
  refine (clnew_any w).mono ?_
  rintro e w1 ⟨rfl, ht, hb1⟩
  obtain ⟨bt, hbt⟩ : ∃ bt, w.heap.size + 1 = bt := ⟨_, rfl⟩
  obtain ⟨bm, hbm⟩ : ∃ bm, w.heap.size = bm := ⟨_, rfl⟩
  have HTM : Hid (w.heap.size ≤ bt ∧ w.heap.size ≤ bm) := Lib.hid (by omega)
  rw [hbt] at ht ⊢
  have hT1 : Cls w1 bt bm [] := by rw [← hbm]; exact ht
  have hT := hT1.chain (Below.chainAlloc (Below.refl _ w1) (.cells #[.int .i64 1, .int .i64 3, .int .i64 2, .int .i64 5, .string ⟨#[]⟩] 30))
  have hk := Blk.new w1 #[.int .i64 1, .int .i64 3, .int .i64 2, .int .i64 5, .string ⟨#[]⟩] 30
  have hB := Below.chainAlloc hb1 (.cells #[.int .i64 1, .int .i64 3, .int .i64 2, .int .i64 5, .string ⟨#[]⟩] 30)
  obtain ⟨W, hW⟩ : ∃ W, w1.alloc (.cells #[.int .i64 1, .int .i64 3, .int .i64 2, .int .i64 5, .string ⟨#[]⟩] 30) = W := ⟨_, rfl⟩
  rw [hW] at hT hk hB
  obtain ⟨b2, hb2⟩ : ∃ b2, w1.heap.size = b2 := ⟨_, rfl⟩
  rw [hb2] at hk
  have NKA : Hid (¬ b2 = bm) := Lib.hid (by have := hT1.m.lt; omega)
  have HMK : Hid (∀ w', Only [bm] W w' → (w'.cell? ⟨b2, 0, none⟩ = some (.int .i64 1) ∧ w'.cell? ⟨b2, 1, none⟩ = some (.int .i64 3) ∧ w'.cell? ⟨b2, 2, none⟩ = some (.int .i64 2) ∧ w'.cell? ⟨b2, 3, none⟩ = some (.int .i64 5) ∧ w'.cell? ⟨b2, 4, none⟩ = some (.string ⟨#[]⟩)) ∧ Only [bm] W w') := Lib.hid fun w' h => by
    have k := hk.only h (by simp; exact NKA.out)
    exact ⟨⟨k.facts.1 0, k.facts.1 1, k.facts.1 2, k.facts.1 3, k.facts.1 4⟩, h⟩
  have HA : Hid (∀ w', Cls w' bt bm [] → Calls Try.prog 10 #[.pointer (some ⟨bt, 0, none⟩), .agg #[.int .i64 1, .int .i64 3, .int .i64 2, .int .i64 5, .string ⟨#[]⟩]] w' (ClPost (.int .i64 0) bt bm [wa] w')) := Lib.hid fun w' h => cask_ok wa bt bm [] w' h (by decide) rfl
  have HC : Hid (∀ w', Cls w' bt bm [wa] → Calls Try.prog 10 #[.pointer (some ⟨bt, 0, none⟩), .agg #[.int .i64 1, .int .i64 3, .int .i64 2, .int .i64 5, .string ⟨#[]⟩]] w' fun e w'' => e = .returned (.int .i64 18) ∧ Below w'.heap.size w' w'') := Lib.hid fun w' h => cask_busy wa wa bt bm [wa] w' h (by decide) rfl
  have HT0 := Lib.hid hT
  have HB0 := Lib.hid hB
  have KA_0 := Lib.hid hk
  have HW := Lib.hid hW
  have HB2 := Lib.hid hb2
  clear hbt hbm ht hb1 hT1 hT hk hB hW hb2
  go_upto_region 5 with fail
  rw [HW.out, HB2.out]
  go_region_held3 (fun w' => (w'.cell? ⟨b2, 0, none⟩ = some (.int .i64 1) ∧ w'.cell? ⟨b2, 1, none⟩ = some (.int .i64 3) ∧ w'.cell? ⟨b2, 2, none⟩ = some (.int .i64 2) ∧ w'.cell? ⟨b2, 3, none⟩ = some (.int .i64 5) ∧ w'.cell? ⟨b2, 4, none⟩ = some (.string ⟨#[]⟩)) ∧ Only [bm] W w')
    (first
      | exact HMK.out _ (Only.refl _ _).drew
      | exact HMK.out _ (Only.refl _ _)
      | exact HMK.out _ ((Only.refl _ _).drew.trans ho)
      | exact HMK.out _ (((Only.refl _ _).drew.trans ho).trans (Only.of_below hb3)))
    ((go_at_call 10; first
      | (refine (HC.out _ ht).mono ?_; rintro e w3 ⟨rfl, hb3⟩)
      | (refine (HA.out _ (HT0.out.chain (Below.refl _ _).drew)).mono ?_; rintro e w2 ⟨rfl, ht, ho⟩)))
  have HT3 : Hid (Cls w3 bt bm [wa]) := Lib.hid (ht.chain hb3)
  have hO3 : Only [bm] W w3 := ((Only.refl _ _).drew.trans ho).trans (Only.of_below hb3)
  have HB3 := Lib.hid (Below.only HB0.out hO3 (by simp [HTM.out.2]))
  have KA_3 := Lib.hid (KA_0.out.only hO3 (by simp; exact NKA.out))
  clear ht ho hb3 hO3 HT0 HB0 KA_0
  go_wp2_with fail
  refine (cask_ok wb bt bm [wa] w3 HT3.out (by decide) rfl).mono ?_
  rintro e w4 ⟨rfl, ht, ho⟩
  have HT4 : Hid (Cls w4 bt bm [wa, wb]) := Lib.hid ht
  have HB4 := Lib.hid (Below.only HB3.out ho (by simp [HTM.out.2]))
  have KA_4 := Lib.hid (KA_3.out.only ho (by simp; exact NKA.out))
  clear ht ho HT3 HB3 KA_3
  go_wp2_with fail
  refine (cask_bad ⟨0, 1, 0, 0, []⟩ bt w4 (.inl (by decide))).mono ?_
  rintro e w5 ⟨rfl, hb⟩
  have HT5 := Lib.hid (HT4.out.chain hb)
  have HB5 := Lib.hid (Below.chain hb HB4.out)
  have KA_5 := Lib.hid (KA_4.out.below hb KA_4.out.lt)
  clear hb HT4 HB4 KA_4
  go_wp2_with fail
  refine (call_any bt bm _ w5 HT5.out (by simp)).mono ?_
  rintro e w6 ⟨v6, ys, rfl, hp, hs, hsg, hb⟩
  have hy := awake29_all hp hs
  subst hy
  have HT6 := Lib.hid (HT5.out.chain hb)
  have HB6 := Lib.hid (Below.chain hb HB5.out)
  have KA_6 := Lib.hid (KA_5.out.below hb KA_5.out.lt)
  obtain ⟨g6, o6, c6, rfl, hg6, hgl6, _⟩ := hsg.shape (by simp)
  have HG6 : Hid (¬ g6 = bm) := Lib.hid (by have := HT5.out.m.lt; omega)
  have HS6 := Lib.hid hsg
  have hc6 := (hsg.wt (m := 0) (by simp)).1
  simp only [List.getElem_cons_zero, Nat.zero_mul, Nat.add_zero] at hc6
  have HC6 : Hid (w6.cell? ⟨g6, o6, none⟩ = some (.int .i64 2) ∧ g6 < w6.heap.size) := Lib.hid ⟨hc6, hgl6⟩
  clear hp hs hsg hb HT5 HB5 KA_5 hg6 hgl6 hc6
  go_wp2_with fail
  refine (cget_yes 2 3 wa bt bm _ w6 HT6.out rfl).mono ?_
  rintro e w7 ⟨rfl, hb⟩
  have hb2 := Below.chainAlloc hb (.cells #[.int .i64 1, .int .i64 3, .int .i64 2, .int .i64 5, .string ⟨#[]⟩] 30)
  have HT7 := Lib.hid (HT6.out.chain hb2)
  have HB7 := Lib.hid (Below.chain hb2 HB6.out)
  have KA_7 := Lib.hid (KA_6.out.below hb2 KA_6.out.lt)
  have KX_7 := Lib.hid (Blk.new w7 #[.int .i64 1, .int .i64 3, .int .i64 2, .int .i64 5, .string ⟨#[]⟩] 30)
  have HC7 : Hid ((w7.alloc (.cells #[.int .i64 1, .int .i64 3, .int .i64 2, .int .i64 5, .string ⟨#[]⟩] 30)).cell? ⟨g6, o6, none⟩ = some (.int .i64 2) ∧ g6 < (w7.alloc (.cells #[.int .i64 1, .int .i64 3, .int .i64 2, .int .i64 5, .string ⟨#[]⟩] 30)).heap.size) := Lib.hid ⟨(hb2.cell (p := ⟨g6, _, none⟩) HC6.out.2).trans HC6.out.1, Nat.lt_of_lt_of_le HC6.out.2 hb2.size⟩
  have NKX : Hid (¬ w7.heap.size = bm) := Lib.hid (by have := HT6.out.m.lt; have := hb.size; omega)
  obtain ⟨W7, hW7⟩ : ∃ W7, w7.alloc (.cells #[.int .i64 1, .int .i64 3, .int .i64 2, .int .i64 5, .string ⟨#[]⟩] 30) = W7 := ⟨_, rfl⟩
  rw [hW7] at HT7 HB7 KA_7 KX_7 HC7
  have HW7 := Lib.hid hW7
  clear hb hb2 HT6 HB6 KA_6 HC6 HS6 hW7
  unfold wa Wt.val
  dsimp only
  go_upto_region 10 with fail
  rw [HW7.out]
  go_wp2_with fail
  refine (ctake_yes 2 3 wa bt bm _ W7 HT7.out rfl).mono ?_
  rintro e w8 ⟨rfl, ht, ho⟩
  have hb8 := Below.chainAlloc (Below.refl _ w8) (.cells #[.int .i64 1, .int .i64 3, .int .i64 2, .int .i64 5, .string ⟨#[]⟩] 30)
  have HT8 : Hid (Cls (w8.alloc (.cells #[.int .i64 1, .int .i64 3, .int .i64 2, .int .i64 5, .string ⟨#[]⟩] 30)) bt bm [wb]) := Lib.hid (Cls.chain (ds := [wb]) ht hb8)
  have HB8 := Lib.hid (Below.chain hb8 (Below.only HB7.out ho (by simp [HTM.out.2])))
  have KA_8 := Lib.hid ((KA_7.out.only ho (by simp; exact NKA.out)).alloc (.cells #[.int .i64 1, .int .i64 3, .int .i64 2, .int .i64 5, .string ⟨#[]⟩] 30))
  have KX_8 := Lib.hid ((KX_7.out.only ho (by simp; exact NKX.out)).alloc (.cells #[.int .i64 1, .int .i64 3, .int .i64 2, .int .i64 5, .string ⟨#[]⟩] 30))
  have KY_8 := Lib.hid (Blk.new w8 #[.int .i64 1, .int .i64 3, .int .i64 2, .int .i64 5, .string ⟨#[]⟩] 30)
  have hm8 := Cls.m ht
  have NKY : Hid (¬ w8.heap.size = bm) := Lib.hid (by have := hm8.lt; omega)
  have hmne : g6 ≠ bm := HG6.out
  have HC8 : Hid ((w8.alloc (.cells #[.int .i64 1, .int .i64 3, .int .i64 2, .int .i64 5, .string ⟨#[]⟩] 30)).cell? ⟨g6, o6, none⟩ = some (.int .i64 2) ∧ g6 < (w8.alloc (.cells #[.int .i64 1, .int .i64 3, .int .i64 2, .int .i64 5, .string ⟨#[]⟩] 30)).heap.size) := Lib.hid (by
    have h1 : w8.heap[g6]? = W7.heap[g6]? := ho.block g6 HC7.out.2 (by simp; exact hmne)
    have h2 : w8.cell? ⟨g6, o6, none⟩ = W7.cell? ⟨g6, o6, none⟩ := by simp only [World.cell?, h1]
    have h3 : g6 < w8.heap.size := Nat.lt_of_lt_of_le HC7.out.2 ho.size
    exact ⟨(hb8.cell (p := ⟨g6, _, none⟩) h3).trans (h2.trans HC7.out.1), Nat.lt_of_lt_of_le h3 hb8.size⟩)
  obtain ⟨W8, hW8⟩ : ∃ W8, w8.alloc (.cells #[.int .i64 1, .int .i64 3, .int .i64 2, .int .i64 5, .string ⟨#[]⟩] 30) = W8 := ⟨_, rfl⟩
  rw [hW8] at HT8 HB8 KA_8 KX_8 KY_8 HC8
  have HW8 := Lib.hid hW8
  clear ht ho hb8 HT7 HB7 KA_7 KX_7 HC7 hW8 hm8 HW7
  unfold wa Wt.val
  dsimp only
  go_upto_region 11 with fail
  rw [HW8.out]
  go_wp2_with fail
  refine (ctake_no 2 3 bt bm _ W8 HT8.out rfl).mono ?_
  rintro e w9 ⟨rfl, hb⟩
  have hb2 := Below.chainAlloc hb (.cells #[.int .i64 0, .int .i64 0, .int .i64 0, .int .i64 0, .string ⟨#[]⟩] 30)
  have HT9 := Lib.hid (HT8.out.chain hb2)
  have HB9 := Lib.hid (Below.chain hb2 HB8.out)
  have KA_9 := Lib.hid (KA_8.out.below hb2 KA_8.out.lt)
  have KX_9 := Lib.hid (KX_8.out.below hb2 KX_8.out.lt)
  have KY_9 := Lib.hid (KY_8.out.below hb2 KY_8.out.lt)
  have HC9 : Hid ((w9.alloc (.cells #[.int .i64 0, .int .i64 0, .int .i64 0, .int .i64 0, .string ⟨#[]⟩] 30)).cell? ⟨g6, o6, none⟩ = some (.int .i64 2) ∧ g6 < (w9.alloc (.cells #[.int .i64 0, .int .i64 0, .int .i64 0, .int .i64 0, .string ⟨#[]⟩] 30)).heap.size) := Lib.hid ⟨(hb2.cell (p := ⟨g6, _, none⟩) HC8.out.2).trans HC8.out.1, Nat.lt_of_lt_of_le HC8.out.2 hb2.size⟩
  obtain ⟨W9, hW9⟩ : ∃ W9, w9.alloc (.cells #[.int .i64 0, .int .i64 0, .int .i64 0, .int .i64 0, .string ⟨#[]⟩] 30) = W9 := ⟨_, rfl⟩
  rw [hW9] at HT9 HB9 KA_9 KX_9 KY_9 HC9
  have HW9 := Lib.hid hW9
  clear hb hb2 HT8 HB8 KA_8 KX_8 KY_8 HC8 hW9 HW8
  unfold wt0 Wt.val
  dsimp only
  go_upto_region 12 with fail
  rw [HW9.out]
  go_wp2_with fail
  refine (cdrop_any 2 bt bm _ W9 HT9.out).mono ?_
  rintro e w10 ⟨v10, rfl, hsg, ht, ho⟩
  have hcol : colW 2 [wb] 3 = [wb] := by decide
  have hdrp : drpW 2 [wb] 3 = [] := by decide
  rw [hcol] at hsg
  rw [hdrp] at ht
  obtain ⟨a10, c10, rfl⟩ := hsg.form
  have HT10 := Lib.hid ht
  have HB10 := Lib.hid (Below.only HB9.out ho (by simp [HTM.out.2]))
  have ka := KA_9.out.only ho (by simp; exact NKA.out)
  have kx := KX_9.out.only ho (by simp; exact NKX.out)
  have ky := KY_9.out.only ho (by simp; exact NKY.out)
  have hc10 : w10.cell? ⟨g6, o6, none⟩ = some (.int .i64 2) := by
    have h1 : w10.heap[g6]? = W9.heap[g6]? := ho.block g6 HC9.out.2 (by simp; exact hmne)
    have h2 : w10.cell? ⟨g6, o6, none⟩ = W9.cell? ⟨g6, o6, none⟩ := by simp only [World.cell?, h1]
    exact h2.trans HC9.out.1
  have a0 := ka.facts.1 0
  have a1 := ka.facts.1 1
  have a2 := ka.facts.1 2
  have a3 := ka.facts.1 3
  have a4 := ka.facts.1 4
  have x0 := kx.facts.1 0
  have x1 := kx.facts.1 1
  have x2 := kx.facts.1 2
  have x3 := kx.facts.1 3
  have x4 := kx.facts.1 4
  have y0 := ky.facts.1 0
  have y1 := ky.facts.1 1
  have y2 := ky.facts.1 2
  have y3 := ky.facts.1 3
  have y4 := ky.facts.1 4
  clear hsg ht ho hcol hdrp ka kx ky HT9 HB9 KA_9 KX_9 KY_9 HC9 HW9
  go_wp2_with fail
  refine (cllen_any bt bm [] w10 HT10.out).mono ?_
  rintro e w11 ⟨rfl, rfl⟩
  go_wp2_with fail
  go_ret
  exact ⟨rfl, HB10.out⟩
end Go.Proofs.Ytjfmjehacaemcaa
