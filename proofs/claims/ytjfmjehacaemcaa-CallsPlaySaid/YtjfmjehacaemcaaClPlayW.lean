/-
  Calls that wait: the walk of the law CallsPlay (chapter 29).
-/
import Derived.Test.YtjfmjehacaemcaaCl10
namespace Go.Proofs.Ytjfmjehacaemcaa
open Go Go.RowKit
set_option linter.unusedVariables false
set_option maxRecDepth 100000
set_option maxHeartbeats 4000000
open Go.ChangeShapes Go.WideShapes Go.ChangeAt
theorem clplay_many (a : Option Addr) (len cap : Nat) (w : World) (h : 60 < len) : Calls Try.prog 3 #[.slice a len cap] w fun e w' => e = .returned (.bool true) ∧ Below w.heap.size w w' := by
  have hl2 : (60 : Int) < (len : Int) := by omega
  go_enter Try.func3, Try.ntmps3
  go_wp2_with fail
  refine (awake29_ok _).mono ?_
  rintro e w1 ⟨rfl, hb⟩
  go_wp2_with fail
  go_ret
  exact ⟨rfl, hb⟩
theorem clplay_few (a : Option Addr) (len cap : Nat) (l : List CD29) (w : World) (hz : IsRows 6 CD29.cells w a len cap l) (h : len ≤ 60) : Calls Try.prog 3 #[.slice a len cap] w fun e w' => e = .returned (.bool true) ∧ Below w.heap.size w w' := by
  have hl2 : ¬ (60 : Int) < (len : Int) := by omega
  have HZ := Lib.hid hz
  clear hz
  go_enter Try.func3, Try.ntmps3
  go_wp2_with fail
  refine (clnew_any _).mono ?_
  rintro e w1 ⟨rfl, ht, hb1⟩
  have hl3 : (len : Int) ≤ 60 := by omega
  obtain ⟨bt, hbt⟩ : ∃ bt, w.heap.size + 1 = bt := ⟨_, rfl⟩
  obtain ⟨bm, hbm⟩ : ∃ bm, w.heap.size = bm := ⟨_, rfl⟩
  have HR1 : Hid (U29 w bt bm (.slice none 0 0) [] [] w1) := Lib.hid (by
    rw [← hbt, ← hbm]
    exact ⟨ht, Seg.nil _ _ _ _, fun g hg => (by cases hg), hb1, by omega, Nat.le_refl _⟩)
  rw [hbt]
  clear hbt hbm ht hb1
  go_wp2_with fail
  go_loopw [4, 5] (fun xv iv wr => ∃ (k : Nat) (xs ds : List Wt), k ≤ len ∧ iv = .int .i64 k ∧ xs.length ≤ k ∧ Hid (CR ds xs) ∧ Hid (U29 w bt bm xv xs ds wr)) (fun _ iv _ => len - (intOf iv).toNat)
  case atStart => exact ⟨0, [], [], Nat.zero_le _, rfl, Nat.le_refl _, Lib.hid CR.nil, HR1⟩
  case round =>
    clear HR1
    obtain ⟨k, xs, ds, hk, rfl, hdk, HR, HU⟩ := hrel
    by_cases hlt : k < len
    · obtain ⟨g, off, hk', rfl, hg, hcell⟩ := HZ.out.get k hlt
      obtain ⟨c, hc⟩ : ∃ c, l[k] = c := ⟨_, rfl⟩
      rw [hc] at hcell
      obtain ⟨ck, i, kd, s, n, b⟩ := c
      have HCELL := Lib.hid hcell
      have HLT := Lib.hid hlt
      have hki : (k : Int) < (len : Int) := by omega
      have HG := Lib.hid hg
      have hxl : xs.length ≤ 900 := by omega
      clear hcell hc hlt hg
      have e0 : wr.cell? ⟨g, off + k * 6, none⟩ = some (.int .i64 ck) := (HU.out.b.cell (p := ⟨g, _, none⟩) HG.out).trans (HCELL.out 0 (by decide))
      have e1 : wr.cell? ⟨g, off + k * 6 + 1, none⟩ = some (.int .i64 i) := (HU.out.b.cell (p := ⟨g, _, none⟩) HG.out).trans (HCELL.out 1 (by decide))
      have e2 : wr.cell? ⟨g, off + k * 6 + 2, none⟩ = some (.int .i64 kd) := (HU.out.b.cell (p := ⟨g, _, none⟩) HG.out).trans (HCELL.out 2 (by decide))
      have e3 : wr.cell? ⟨g, off + k * 6 + 3, none⟩ = some (.int .i64 s) := (HU.out.b.cell (p := ⟨g, _, none⟩) HG.out).trans (HCELL.out 3 (by decide))
      have e4 : wr.cell? ⟨g, off + k * 6 + 4, none⟩ = some (.int .i64 n) := (HU.out.b.cell (p := ⟨g, _, none⟩) HG.out).trans (HCELL.out 4 (by decide))
      have e5 : wr.cell? ⟨g, off + k * 6 + 5, none⟩ = some (Str b) := (HU.out.b.cell (p := ⟨g, _, none⟩) HG.out).trans (HCELL.out 5 (by decide))
      obtain ⟨ax, cx, rfl⟩ := HU.out.s.form
      have HU6 := Lib.hid (HU.out.chain (Below.chainAlloc (Below.refl _ wr) (.cells #[.int .i64 i, .int .i64 kd, .int .i64 s, .int .i64 n, Str b] 30)))
      have HK6 := Lib.hid (Blk.new wr #[.int .i64 i, .int .i64 kd, .int .i64 s, .int .i64 n, Str b] 30)
      have HN6 : Hid (¬ wr.heap.size = bm) := Lib.hid (by have := HU.out.t.m.lt; omega)
      obtain ⟨b6, hb6⟩ : ∃ b6, wr.heap.size = b6 := ⟨_, rfl⟩
      have HB6 := Lib.hid hb6
      obtain ⟨W6, hW6⟩ : ∃ W6, wr.alloc (.cells #[.int .i64 i, .int .i64 kd, .int .i64 s, .int .i64 n, Str b] 30) = W6 := ⟨_, rfl⟩
      rw [hW6] at HU6 HK6
      rw [hb6] at HK6 HN6
      have HW6 := Lib.hid hW6
      clear hb6 hW6
      by_cases hbig : 100 < b.length
      · have hb1 : (100 : Int) < (b.length : Int) := by omega
        go_upto_region 11 with fail
        rw [HW6.out, HB6.out]
        clear e0 e1 e2 e3 e4 e5 HW6 HB6 HU
        have x4 := HK6.out.facts.1 4
        go_wp2_with fail
        go_roundw
        case measure => have := HLT.out; simp [intOf]; omega
        case rel => exact ⟨k + 1, xs, ds, HLT.out, by go_num, Nat.le_succ_of_le hdk, HR, HU6⟩
      · have hb1 : ¬ (100 : Int) < (b.length : Int) := by omega
        go_upto_region 11 with fail
        rw [HW6.out, HB6.out]
        clear e0 e1 e2 e3 e4 e5 HW6 HB6 HU
        have x0 := HK6.out.facts.1 0
        have x1 := HK6.out.facts.1 1
        have x2 := HK6.out.facts.1 2
        have x3 := HK6.out.facts.1 3
        have x4 := HK6.out.facts.1 4
        have HG1 := Lib.hid (p_get s kd HU6.out HR.out)
        have HG2 : Hid (∀ w', U29 w bt bm (.slice ax xs.length cx) xs ds w' → Calls Try.prog 8 #[.slice ax xs.length cx, .int .i64 s, .int .i64 kd] w' fun e w'' => e = .returned (.tuple #[(gotW (s, kd) xs).val, .bool (getW (s, kd) xs).isSome]) ∧ Below w'.heap.size w' w'') := Lib.hid (fun w' h => r_get s kd h hxl)
        have HT1 : Hid (∀ w', U29 w bt bm (.slice ax xs.length cx) xs ds w' → Calls Try.prog 11 #[.pointer (some ⟨bt, 0, none⟩), .int .i64 s, .int .i64 kd] w' fun e w'' => e = .returned (.tuple #[(gotW (s, kd) xs).val, .bool (getW (s, kd) xs).isSome]) ∧ U29 w bt bm (.slice ax xs.length cx) xs (dropW (s, kd) ds) w'' ∧ Only [bm] w' w'') := Lib.hid (fun w' h => p_take29 s kd h HR.out)
        have HSOME : Hid ((getW (s, kd) xs).isSome = true → kd ≠ 0) := Lib.hid (fun h0 => by
          obtain ⟨d, hd⟩ := Option.isSome_iff_exists.1 h0
          rw [← HR.out.get] at hd
          obtain ⟨h1, h2⟩ := (getW_some HR.out.keys).1 hd
          have := HR.out.kinds d h1
          have := congrArg Prod.snd h2
          unfold Wt.key at this
          dsimp only at this
          omega)
        have HNONE : Hid ((getW (s, kd) xs).isSome = false → dropW (s, kd) ds = ds) := Lib.hid (fun h0 => by
          rw [← HR.out.get] at h0
          exact dropW_self (getW_none.1 (by simpa using h0)))
        generalize (getW (s, kd) xs).isSome = y at *
        generalize gotW (s, kd) xs = gv at *
        obtain ⟨gi, gk, gs, gn, gb⟩ := gv
        unfold Wt.val at HG1 HG2 HT1
        dsimp only at HG1 HG2 HT1
        go_wp2_with fail
        refine HG1.out.mono ?_
        rintro e w7 ⟨rfl, hb⟩
        have hb7 := Below.chainAlloc hb (.cells #[.int .i64 gi, .int .i64 gk, .int .i64 gs, .int .i64 gn, Str gb] 30)
        have HU7 := Lib.hid (HU6.out.chain hb7)
        have HK7 := Lib.hid (HK6.out.below hb7 HK6.out.lt)
        have HX7 := Lib.hid (Blk.new w7 #[.int .i64 gi, .int .i64 gk, .int .i64 gs, .int .i64 gn, Str gb] 30)
        obtain ⟨W7, hW7⟩ : ∃ W7, w7.alloc (.cells #[.int .i64 gi, .int .i64 gk, .int .i64 gs, .int .i64 gn, Str gb] 30) = W7 := ⟨_, rfl⟩
        rw [hW7] at HU7 HK7 HX7
        obtain ⟨b7, hb77⟩ : ∃ b7, w7.heap.size = b7 := ⟨_, rfl⟩
        rw [hb77] at HX7
        have HW7 := Lib.hid hW7
        have HB7 := Lib.hid hb77
        clear hb hb7 x0 x1 x2 x3 x4 HU6 HK6 HG1 hW7 hb77
        go_upto_region 13 with fail
        rw [HW7.out, HB7.out]
        clear HW7 HB7
        have x0 := HK7.out.facts.1 0
        have x1 := HK7.out.facts.1 1
        have x2 := HK7.out.facts.1 2
        have x3 := HK7.out.facts.1 3
        have x4 := HK7.out.facts.1 4
        go_wp2_with fail
        refine (HG2.out _ HU7.out).mono ?_
        rintro e w8 ⟨rfl, hb⟩
        have hb8 := Below.chainAlloc hb (.cells #[.int .i64 gi, .int .i64 gk, .int .i64 gs, .int .i64 gn, Str gb] 30)
        have HU8 := Lib.hid (HU7.out.chain hb8)
        have HK8 := Lib.hid (HK7.out.below hb8 HK7.out.lt)
        have HX8 := Lib.hid (HX7.out.below hb8 HX7.out.lt)
        have HY8 := Lib.hid (Blk.new w8 #[.int .i64 gi, .int .i64 gk, .int .i64 gs, .int .i64 gn, Str gb] 30)
        have HN9 : Hid (¬ w8.heap.size = bm) := Lib.hid (by have := HU7.out.t.m.lt; have := hb.size; omega)
        obtain ⟨W8, hW8⟩ : ∃ W8, w8.alloc (.cells #[.int .i64 gi, .int .i64 gk, .int .i64 gs, .int .i64 gn, Str gb] 30) = W8 := ⟨_, rfl⟩
        rw [hW8] at HU8 HK8 HX8 HY8
        obtain ⟨b9, hb99⟩ : ∃ b9, w8.heap.size = b9 := ⟨_, rfl⟩
        rw [hb99] at HY8 HN9
        have HW8 := Lib.hid hW8
        have HB9 := Lib.hid hb99
        clear hb hb8 x0 x1 x2 x3 x4 HU7 HK7 HX7 HG2 hW8 hb99
        go_upto_region 14 with fail
        rw [HW8.out, HB9.out]
        clear HW8 HB9
        have u0 := HX8.out.facts.1 0
        have u1 := HX8.out.facts.1 1
        have u2 := HX8.out.facts.1 2
        have u3 := HX8.out.facts.1 3
        have u4 := HX8.out.facts.1 4
        have v0 := HY8.out.facts.1 0
        have v1 := HY8.out.facts.1 1
        have v2 := HY8.out.facts.1 2
        have v3 := HY8.out.facts.1 3
        have v4 := HY8.out.facts.1 4
        have hg1 := fun x y w => run_eqGuard_agg (P := Try.prog) w .neq 30 x y #[.int .i64 gi, .int .i64 gk, .int .i64 gs, .int .i64 gn, Str gb] #[.int .i64 gi, .int .i64 gk, .int .i64 gs, .int .i64 gn, Str gb] guardWait
        have he : ∀ w, (binOp .neq 30 (.agg #[.int .i64 gi, .int .i64 gk, .int .i64 gs, .int .i64 gn, Str gb]) (.agg #[.int .i64 gi, .int .i64 gk, .int .i64 gs, .int .i64 gn, Str gb])).run Try.prog w = .ok (.bool false) w := fun w => by
          have := run_neq_wait w ⟨gi, gk, gs, gn, gb⟩ ⟨gi, gk, gs, gn, gb⟩
          rw [decide_eq_true rfl] at this
          exact this
        have hyy : (y != y) = false := by simp
        have e0 : W8.cell? ⟨g, off + k * 6, none⟩ = some (.int .i64 ck) := (HU8.out.b.cell (p := ⟨g, _, none⟩) HG.out).trans (HCELL.out 0 (by decide))
        by_cases hk0 : ck = 0
        · subst hk0
          have HA1 := Lib.hid (r_ask29 ⟨i, kd, s, n, b⟩ HU8.out hxl)
          have HA2 : Hid (∀ xv' xs' w', U29 w bt bm xv' xs' ds w' → Calls Try.prog 10 #[.pointer (some ⟨bt, 0, none⟩), .agg #[.int .i64 i, .int .i64 kd, .int .i64 s, .int .i64 n, Str b]] w' fun e w'' => e = .returned (.int .i64 (askErr ⟨i, kd, s, n, b⟩ xs)) ∧ U29 w bt bm xv' xs' (askDs ⟨i, kd, s, n, b⟩ xs ds) w'' ∧ Only [bm] w' w'') := Lib.hid (fun xv' xs' w' h => p_ask29 ⟨i, kd, s, n, b⟩ h HR.out)
          have HRA := Lib.hid (HR.out.asked (d := ⟨i, kd, s, n, b⟩))
          have hal := askXs_len ⟨i, kd, s, n, b⟩ xs
          unfold Wt.val at HA1
          dsimp only at HA1
          generalize askErr ⟨i, kd, s, n, b⟩ xs = E at *
          generalize askXs ⟨i, kd, s, n, b⟩ xs = xs' at *
          generalize askDs ⟨i, kd, s, n, b⟩ xs ds = ds' at *
          have hee : (E != E) = false := by simp
          clear HR HT1 HSOME HNONE
          have x0 := HK8.out.facts.1 0
          have x1 := HK8.out.facts.1 1
          have x2 := HK8.out.facts.1 2
          have x3 := HK8.out.facts.1 3
          have x4 := HK8.out.facts.1 4
          go_wp2_with fail
          refine HA1.out.mono ?_
          rintro e w9 ⟨xv', rfl, hU, hb⟩
          have HU9 := Lib.hid hU
          have HK9 := Lib.hid (HK8.out.below hb HK8.out.lt)
          obtain ⟨ay, cy, rfl⟩ := hU.s.form
          clear hU hb HA1 u0 u1 u2 u3 u4 v0 v1 v2 v3 v4 e0 x0 x1 x2 x3 x4 HU8 HK8 HX8 HY8
          have x0 := HK9.out.facts.1 0
          have x1 := HK9.out.facts.1 1
          have x2 := HK9.out.facts.1 2
          have x3 := HK9.out.facts.1 3
          have x4 := HK9.out.facts.1 4
          go_wp2_with fail
          refine (HA2.out _ _ _ HU9.out).mono ?_
          rintro e wz ⟨rfl, hU, ho⟩
          have HU := Lib.hid hU
          have HR := HRA
          clear hU ho HA2 HRA x0 x1 x2 x3 x4 HU9 HK9
          have hdl : xs'.length ≤ 900 := by omega
          have hdl2 : ds'.length ≤ 1000 := by have := HR.out.len; omega
          have HALL := Lib.hid (call_any bt bm ds' wz HU.out.t hdl2)
          go_wp2_with fail
          refine HALL.out.mono ?_
          rintro e w10 ⟨v10, ys, rfl, hp, hsr, hsg, hb⟩
          have hy := HR.out.all hp hsr
          subst hy
          have HU10 := Lib.hid (HU.out.chain hb)
          have HSM := Lib.hid (rsame29_yes v10 _ _ _ _ w10 hsg HU10.out.s (by omega))
          obtain ⟨a10, c10, rfl⟩ := hsg.form
          clear hp hsr hsg hb HALL
          go_wp2_with fail
          refine HSM.out.mono ?_
          rintro e w11 ⟨rfl, hb⟩
          have HU11 := Lib.hid (HU10.out.chain hb)
          have hll := HR.out.len
          have HLEN := Lib.hid (cllen_any bt bm ds' w11 HU11.out.t)
          rw [hll] at HLEN
          have hnn : ((ys.length : Int) != (ys.length : Int)) = false := by simp
          clear hb hll HSM
          go_wp2_with fail
          refine HLEN.out.mono ?_
          rintro e w12 ⟨rfl, rfl⟩
          go_wp2_with fail
          go_roundw
          case measure => have := HLT.out; simp [intOf]; omega
          case rel => exact ⟨k + 1, ys, ds', HLT.out, by go_num, by omega, HR, HU11⟩
        · have hk0b : (ck == 0) = false := beq_eq_false_iff_ne.2 hk0
          by_cases hk1 : ck = 1
          · subst hk1
            have x0 := HK8.out.facts.1 0
            have x1 := HK8.out.facts.1 1
            have x2 := HK8.out.facts.1 2
            have x3 := HK8.out.facts.1 3
            have x4 := HK8.out.facts.1 4
            go_wp2_with fail
            refine (HT1.out _ HU8.out).mono ?_
            rintro e w9 ⟨rfl, hU, ho⟩
            have hb9 := Below.chainAlloc (Below.refl _ w9) (.cells #[.int .i64 gi, .int .i64 gk, .int .i64 gs, .int .i64 gn, Str gb] 30)
            have HU9 := Lib.hid (U29.chain hU hb9)
            have HK9 := Lib.hid ((HK8.out.only ho (by simp; exact HN6.out)).alloc (.cells #[.int .i64 gi, .int .i64 gk, .int .i64 gs, .int .i64 gn, Str gb] 30))
            have HY9 := Lib.hid ((HY8.out.only ho (by simp; exact HN9.out)).alloc (.cells #[.int .i64 gi, .int .i64 gk, .int .i64 gs, .int .i64 gn, Str gb] 30))
            have HZ9 := Lib.hid (Blk.new w9 #[.int .i64 gi, .int .i64 gk, .int .i64 gs, .int .i64 gn, Str gb] 30)
            obtain ⟨W9, hW9⟩ : ∃ W9, w9.alloc (.cells #[.int .i64 gi, .int .i64 gk, .int .i64 gs, .int .i64 gn, Str gb] 30) = W9 := ⟨_, rfl⟩
            rw [hW9] at HU9 HK9 HY9 HZ9
            obtain ⟨b10, hb10⟩ : ∃ b10, w9.heap.size = b10 := ⟨_, rfl⟩
            rw [hb10] at HZ9
            have HW9 := Lib.hid hW9
            have HB10 := Lib.hid hb10
            clear hU ho hb9 HT1 u0 u1 u2 u3 u4 v0 v1 v2 v3 v4 e0 x0 x1 x2 x3 x4 HU8 HK8 HX8 HY8 hW9 hb10
            go_upto_region 28 with fail
            rw [HW9.out, HB10.out]
            clear HW9 HB10
            have u0 := HZ9.out.facts.1 0
            have u1 := HZ9.out.facts.1 1
            have u2 := HZ9.out.facts.1 2
            have u3 := HZ9.out.facts.1 3
            have u4 := HZ9.out.facts.1 4
            have v0 := HY9.out.facts.1 0
            have v1 := HY9.out.facts.1 1
            have v2 := HY9.out.facts.1 2
            have v3 := HY9.out.facts.1 3
            have v4 := HY9.out.facts.1 4
            cases hy0 : y with
            | false =>
              have hd := HNONE.out hy0
              subst hy0
              rw [hd] at HU9
              have HU := HU9
              clear HNONE HSOME HK9 HY9 HZ9
              go_upto_region 33 with fail
              clear hg1 he u0 u1 u2 u3 u4 v0 v1 v2 v3 v4
              have hdl : xs.length ≤ 900 := by omega
              have hdl2 : ds.length ≤ 1000 := by have := HR.out.len; omega
              have HALL := Lib.hid (call_any bt bm ds W9 HU.out.t hdl2)
              go_wp2_with fail
              refine HALL.out.mono ?_
              rintro e w10 ⟨v10, ys, rfl, hp, hsr, hsg, hb⟩
              have hy := HR.out.all hp hsr
              subst hy
              have HU10 := Lib.hid (HU.out.chain hb)
              have HSM := Lib.hid (rsame29_yes v10 _ _ _ _ w10 hsg HU10.out.s (by omega))
              obtain ⟨a10, c10, rfl⟩ := hsg.form
              clear hp hsr hsg hb HALL
              go_wp2_with fail
              refine HSM.out.mono ?_
              rintro e w11 ⟨rfl, hb⟩
              have HU11 := Lib.hid (HU10.out.chain hb)
              have hll := HR.out.len
              have HLEN := Lib.hid (cllen_any bt bm ds w11 HU11.out.t)
              rw [hll] at HLEN
              have hnn : ((ys.length : Int) != (ys.length : Int)) = false := by simp
              clear hb hll HSM
              go_wp2_with fail
              refine HLEN.out.mono ?_
              rintro e w12 ⟨rfl, rfl⟩
              go_wp2_with fail
              go_roundw
              case measure => have := HLT.out; simp [intOf]; omega
              case rel => exact ⟨k + 1, ys, ds, HLT.out, by go_num, by omega, HR, HU11⟩
            | true =>
              have hkd := HSOME.out hy0
              subst hy0
              have HD1 := Lib.hid (r_drop1 s kd hkd HU9.out hxl)
              have HR2 : Hid (CR (dropW (s, kd) ds) (dropW (s, kd) xs)) := Lib.hid (HR.out.filter _)
              have hdle := dropW_le (s, kd) xs
              clear HNONE HSOME HY9 HZ9 HR hkd
              have x0 := HK9.out.facts.1 0
              have x1 := HK9.out.facts.1 1
              have x2 := HK9.out.facts.1 2
              have x3 := HK9.out.facts.1 3
              have x4 := HK9.out.facts.1 4
              generalize dropW (s, kd) xs = xs' at *
              generalize dropW (s, kd) ds = ds' at *
              go_wp2_with fail
              refine HD1.out.mono ?_
              rintro e wz ⟨vp, vq, rfl, hU, hb⟩
              have HU := Lib.hid hU
              have HR := HR2
              obtain ⟨az, cz, rfl⟩ := hU.s.form
              clear hU hb HD1 HR2 hg1 he u0 u1 u2 u3 u4 v0 v1 v2 v3 v4 x0 x1 x2 x3 x4 HK9 HU9
              have hdl : xs'.length ≤ 900 := by omega
              have hdl2 : ds'.length ≤ 1000 := by have := HR.out.len; omega
              have HALL := Lib.hid (call_any bt bm ds' wz HU.out.t hdl2)
              go_wp2_with fail
              refine HALL.out.mono ?_
              rintro e w10 ⟨v10, ys, rfl, hp, hsr, hsg, hb⟩
              have hy := HR.out.all hp hsr
              subst hy
              have HU10 := Lib.hid (HU.out.chain hb)
              have HSM := Lib.hid (rsame29_yes v10 _ _ _ _ w10 hsg HU10.out.s (by omega))
              obtain ⟨a10, c10, rfl⟩ := hsg.form
              clear hp hsr hsg hb HALL
              go_wp2_with fail
              refine HSM.out.mono ?_
              rintro e w11 ⟨rfl, hb⟩
              have HU11 := Lib.hid (HU10.out.chain hb)
              have hll := HR.out.len
              have HLEN := Lib.hid (cllen_any bt bm ds' w11 HU11.out.t)
              rw [hll] at HLEN
              have hnn : ((ys.length : Int) != (ys.length : Int)) = false := by simp
              clear hb hll HSM
              go_wp2_with fail
              refine HLEN.out.mono ?_
              rintro e w12 ⟨rfl, rfl⟩
              go_wp2_with fail
              go_roundw
              case measure => have := HLT.out; simp [intOf]; omega
              case rel => exact ⟨k + 1, ys, ds', HLT.out, by go_num, by omega, HR, HU11⟩
          · have hk1b : (ck == 1) = false := beq_eq_false_iff_ne.2 hk1
            have HD1 := Lib.hid (r_drop29 s HU8.out hxl)
            have HD2 : Hid (∀ xv' xs' w', U29 w bt bm xv' xs' ds w' → Calls Try.prog 14 #[.pointer (some ⟨bt, 0, none⟩), .int .i64 s] w' fun e w'' => ∃ v, e = .returned v ∧ Seg w'' w'.heap.size 30 5 v (xs.filter (strB s)).length (wtS (xs.filter (strB s))) ∧ U29 w bt bm xv' xs' (ds.filter fun d => !strB s d) w'' ∧ Only [bm] w' w'') := Lib.hid (fun xv' xs' w' h => p_drop29 s h HR.out)
            have HR2 : Hid (CR (ds.filter fun d => !strB s d) (xs.filter fun d => !strB s d)) := Lib.hid (HR.out.filter _)
            have hdle : (xs.filter fun d => !strB s d).length ≤ xs.length := List.length_filter_le _ _
            have hgle : (xs.filter (strB s)).length ≤ xs.length := List.length_filter_le _ _
            clear HR HT1 HSOME HNONE
            have x0 := HK8.out.facts.1 0
            have x1 := HK8.out.facts.1 1
            have x2 := HK8.out.facts.1 2
            have x3 := HK8.out.facts.1 3
            have x4 := HK8.out.facts.1 4
            generalize (xs.filter fun d => !strB s d) = xs' at *
            generalize (ds.filter fun d => !strB s d) = ds' at *
            generalize xs.filter (strB s) = gone at *
            go_wp2_with fail
            refine HD1.out.mono ?_
            rintro e w9 ⟨v1, v2, rfl, hsg, hU, hb⟩
            have HU9 := Lib.hid hU
            have HK9 := Lib.hid (HK8.out.below hb HK8.out.lt)
            have HSG1 := Lib.hid hsg
            obtain ⟨ay, cy, rfl⟩ := hU.s.form
            obtain ⟨ag, cg, rfl⟩ := hsg.form
            have HNG : Hid (∀ g, (Value.slice ag gone.length cg).ownBlock = some g → g ≠ bm) := Lib.hid (fun g hg => by
              have := (HSG1.out.blk g hg).1
              have := HU8.out.t.m.lt
              omega)
            clear hU hb hsg HD1 u0 u1 u2 u3 u4 v0 v1 v2 v3 v4 e0 x0 x1 x2 x3 x4 HU8 HK8 HX8 HY8
            have x0 := HK9.out.facts.1 0
            have x1 := HK9.out.facts.1 1
            have x2 := HK9.out.facts.1 2
            have x3 := HK9.out.facts.1 3
            have x4 := HK9.out.facts.1 4
            go_wp2_with fail
            refine (HD2.out _ _ _ HU9.out).mono ?_
            rintro e w10 ⟨v3, rfl, hsg, hU, ho⟩
            have HU10 := Lib.hid hU
            have HSM := Lib.hid (rsame29_yes v3 _ _ _ gone w10 hsg (HSG1.out.only ho (fun g hg => by simp [HNG.out g hg])) (by omega))
            obtain ⟨a3, c3, rfl⟩ := hsg.form
            clear hU ho hsg HD2 x0 x1 x2 x3 x4 HU9 HK9
            go_wp2_with fail
            refine HSM.out.mono ?_
            rintro e wz ⟨rfl, hb⟩
            have HU := Lib.hid (HU10.out.chain hb)
            have HR := HR2
            clear hb HSM HR2 HU10
            have hdl : xs'.length ≤ 900 := by omega
            have hdl2 : ds'.length ≤ 1000 := by have := HR.out.len; omega
            have HALL := Lib.hid (call_any bt bm ds' wz HU.out.t hdl2)
            go_wp2_with fail
            refine HALL.out.mono ?_
            rintro e w10 ⟨v10, ys, rfl, hp, hsr, hsg, hb⟩
            have hy := HR.out.all hp hsr
            subst hy
            have HU10 := Lib.hid (HU.out.chain hb)
            have HSM := Lib.hid (rsame29_yes v10 _ _ _ _ w10 hsg HU10.out.s (by omega))
            obtain ⟨a10, c10, rfl⟩ := hsg.form
            clear hp hsr hsg hb HALL
            go_wp2_with fail
            refine HSM.out.mono ?_
            rintro e w11 ⟨rfl, hb⟩
            have HU11 := Lib.hid (HU10.out.chain hb)
            have hll := HR.out.len
            have HLEN := Lib.hid (cllen_any bt bm ds' w11 HU11.out.t)
            rw [hll] at HLEN
            have hnn : ((ys.length : Int) != (ys.length : Int)) = false := by simp
            clear hb hll HSM
            go_wp2_with fail
            refine HLEN.out.mono ?_
            rintro e w12 ⟨rfl, rfl⟩
            go_wp2_with fail
            go_roundw
            case measure => have := HLT.out; simp [intOf]; omega
            case rel => exact ⟨k + 1, ys, ds', HLT.out, by go_num, by omega, HR, HU11⟩
    · obtain rfl : k = len := by omega
      have hlt' : ¬ (k : Int) < (k : Int) := by omega
      have HBF := Lib.hid HU.out.b
      obtain ⟨ax, cx, rfl⟩ := HU.out.s.form
      clear HU
      go_wp2_with fail
      refine (awake29_ok _).mono ?_
      rintro e w9 ⟨rfl, hb9⟩
      have HBE := Lib.hid (Below.chain hb9 HBF.out)
      go_wp2_with fail
      go_ret
      exact ⟨rfl, HBE.out⟩
theorem clplay_walk (a : Option Addr) (len cap : Nat) (l : List CD29) (w : World) (hz : IsRows 6 CD29.cells w a len cap l) : Calls Try.prog 3 #[.slice a len cap] w fun e w' => e = .returned (.bool true) ∧ Below w.heap.size w w' := by
  by_cases h : 60 < len
  · exact clplay_many a len cap w h
  · exact clplay_few a len cap l w hz (by omega)
end Go.Proofs.Ytjfmjehacaemcaa
