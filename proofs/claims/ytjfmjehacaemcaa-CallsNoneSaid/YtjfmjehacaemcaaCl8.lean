/-
  Calls that wait: the document's Ask (chapter 29).
-/
import Derived.Test.YtjfmjehacaemcaaCl7
namespace Go.Proofs.Ytjfmjehacaemcaa
open Go Go.RowKit
set_option linter.unusedVariables false
set_option maxRecDepth 100000
set_option maxHeartbeats 4000000
theorem wtS_take : ∀ (xs : List Wt) (i : Nat), wtS (xs.take i) = (wtS xs).take (i * 5)
  | [], i => by simp [wtS]
  | x :: xs, 0 => by simp [wtS]
  | x :: xs, i + 1 => by
    have ih := wtS_take xs i
    unfold wtS at *
    rw [List.take_succ_cons, List.flatMap_cons, List.flatMap_cons, ih, Nat.succ_mul, Nat.add_comm (i * 5), ← wtC_len x, List.take_length_add_append]
theorem wtS_drop : ∀ (xs : List Wt) (i : Nat), wtS (xs.drop i) = (wtS xs).drop (i * 5)
  | [], i => by simp [wtS]
  | x :: xs, 0 => by simp [wtS]
  | x :: xs, i + 1 => by
    have ih := wtS_drop xs i
    unfold wtS at *
    rw [List.drop_succ_cons, List.flatMap_cons, ih, Nat.succ_mul, Nat.add_comm (i * 5), ← wtC_len x, List.drop_length_add_append]
theorem rask29_bad (d : Wt) (ao : Option Addr) (len cap : Nat) (w : World) (hbad : d.kind < 2 ∨ 4 < d.kind ∨ d.stream < 0 ∨ 255 < d.stream) : Calls Try.prog 9 #[.slice ao len cap, d.val] w fun e w' => e = .returned (.tuple #[.slice ao len cap, .int .i64 1]) ∧ Below w.heap.size w w' := by
  obtain ⟨i, kd, s, n, b⟩ := d
  have k1 := (Blk.new w #[.int .i64 i, .int .i64 kd, .int .i64 s, .int .i64 n, Str b] 30).alloc (.cells #[.int .i64 kd, .int .i64 s, .int .i64 n, Str b] 28)
  have k2 := Blk.new (w.alloc (.cells #[.int .i64 i, .int .i64 kd, .int .i64 s, .int .i64 n, Str b] 30)) #[.int .i64 kd, .int .i64 s, .int .i64 n, Str b] 28
  rw [size_alloc] at k2
  have hB := Below.chainAlloc (Below.chainAlloc (Below.refl _ w) (.cells #[.int .i64 i, .int .i64 kd, .int .i64 s, .int .i64 n, Str b] 30)) (.cells #[.int .i64 kd, .int .i64 s, .int .i64 n, Str b] 28)
  unfold Wt.val
  dsimp only at *
  have HB := Lib.hid hB
  clear k1 k2 hB
  by_cases h1 : kd < 2
  · go_enter Try.func9, Try.ntmps9
    go_wp2_with fail
    go_ret2
    exact ⟨rfl, HB.out⟩
  · by_cases h2 : 4 < kd
    · go_enter Try.func9, Try.ntmps9
      go_wp2_with fail
      go_ret2
      exact ⟨rfl, HB.out⟩
    · by_cases h3 : s < 0
      · go_enter Try.func9, Try.ntmps9
        go_wp2_with fail
        go_ret2
        exact ⟨rfl, HB.out⟩
      · have h4 : 255 < s := by omega
        go_enter Try.func9, Try.ntmps9
        go_wp2_with fail
        go_ret2
        exact ⟨rfl, HB.out⟩
theorem rask29_busy (d d' : Wt) (base : Nat) (v : Value) (xs : List Wt) (w : World) (hs : Seg w base 30 5 v xs.length (wtS xs)) (hl : xs.length ≤ 900) (hk : 2 ≤ d.kind ∧ d.kind ≤ 4 ∧ 0 ≤ d.stream ∧ d.stream ≤ 255) (hg : getW d.key xs = some d') : Calls Try.prog 9 #[v, d.val] w fun e w' => e = .returned (.tuple #[v, .int .i64 18]) ∧ Below w.heap.size w w' := by
  obtain ⟨i, kd, s, n, b⟩ := d
  have k1 := (Blk.new w #[.int .i64 i, .int .i64 kd, .int .i64 s, .int .i64 n, Str b] 30).alloc (.cells #[.int .i64 kd, .int .i64 s, .int .i64 n, Str b] 28)
  have k2 := Blk.new (w.alloc (.cells #[.int .i64 i, .int .i64 kd, .int .i64 s, .int .i64 n, Str b] 30)) #[.int .i64 kd, .int .i64 s, .int .i64 n, Str b] 28
  rw [size_alloc] at k2
  have hB := Below.chainAlloc (Below.chainAlloc (Below.refl _ w) (.cells #[.int .i64 i, .int .i64 kd, .int .i64 s, .int .i64 n, Str b] 30)) (.cells #[.int .i64 kd, .int .i64 s, .int .i64 n, Str b] 28)
  unfold Wt.val
  dsimp only at *
  obtain ⟨m, hm, hd, hne, hkey⟩ := getW_idx hg
  have HA := Lib.hid (rat29_yes s kd m base v xs _ (hs.chain hB) (by omega) hm hne (by rw [hd]; exact hkey))
  obtain ⟨ao, cap, rfl⟩ := hs.form
  have HB := Lib.hid hB
  have h1 : ¬ kd < 2 := by omega
  have h2 : ¬ 4 < kd := by omega
  have h3 : ¬ s < 0 := by omega
  have h4 : ¬ 255 < s := by omega
  have hm0 : (0 : Int) ≤ (m : Int) := by omega
  clear k1 k2 hB hg hd hne hkey hs
  go_enter Try.func9, Try.ntmps9
  go_wp2_with fail
  refine HA.out.mono ?_
  rintro e w1 ⟨rfl, rfl⟩
  go_wp2_with fail
  go_ret2
  exact ⟨rfl, HB.out⟩
/-- The answer of the document's Ask. -/
def RAskPost (d : Wt) (xs : List Wt) (w : World) (e : Ending) (w' : World) : Prop :=
  ∃ v', e = .returned (.tuple #[v', .int .i64 0]) ∧ Seg w' w.heap.size 30 5 v' (insW d xs).length (wtS (insW d xs)) ∧ Below w.heap.size w w'
theorem rask29_ok (d : Wt) (base : Nat) (v : Value) (xs : List Wt) (w : World) (hs : Seg w base 30 5 v xs.length (wtS xs)) (hl : xs.length ≤ 900) (hk : 2 ≤ d.kind ∧ d.kind ≤ 4 ∧ 0 ≤ d.stream ∧ d.stream ≤ 255) (hg : getW d.key xs = none) : Calls Try.prog 9 #[v, d.val] w (RAskPost d xs w) := by
  obtain ⟨i0, hi, hz0, hz1, hz2⟩ := info_parts infoWait
  obtain ⟨i, kd, s, n, b⟩ := d
  have k1 := (Blk.new w #[.int .i64 i, .int .i64 kd, .int .i64 s, .int .i64 n, Str b] 30).alloc (.cells #[.int .i64 kd, .int .i64 s, .int .i64 n, Str b] 28)
  have k2 := Blk.new (w.alloc (.cells #[.int .i64 i, .int .i64 kd, .int .i64 s, .int .i64 n, Str b] 30)) #[.int .i64 kd, .int .i64 s, .int .i64 n, Str b] 28
  rw [size_alloc] at k2
  have hB := Below.chainAlloc (Below.chainAlloc (Below.refl _ w) (.cells #[.int .i64 i, .int .i64 kd, .int .i64 s, .int .i64 n, Str b] 30)) (.cells #[.int .i64 kd, .int .i64 s, .int .i64 n, Str b] 28)
  unfold Wt.val
  dsimp only at *
  have HA := Lib.hid (rat29_no s kd base v xs _ (hs.chain hB) (by omega) (getW_none.1 hg))
  have HNK := Lib.hid (getW_none.1 hg)
  obtain ⟨ao, cap, rfl⟩ := hs.form
  have HS := Lib.hid hs
  have HB0 := Lib.hid hB
  have HX0 := Lib.hid k1
  have HC0 := Lib.hid k2
  have h1 : ¬ kd < 2 := by omega
  have h2 : ¬ 4 < kd := by omega
  have h3 : ¬ s < 0 := by omega
  have h4 : ¬ 255 < s := by omega
  have hmx : xs.length ≤ 9223372036854775807 := by omega
  have hli : (xs.length : Int) ≤ 900 := by omega
  clear k1 k2 hB hg hs
  go_enter Try.func9, Try.ntmps9
  go_wp2_with fail
  refine HA.out.mono ?_
  rintro e w1 ⟨rfl, rfl⟩
  go_wp2_with fail
  obtain ⟨bx, hbx⟩ : ∃ bx, w.heap.size = bx := ⟨_, rfl⟩
  have HBX := Lib.hid hbx
  rw [hbx] at HX0 HC0 ⊢
  clear hbx
  go_loopw [7] (fun iv wr => ∃ j : Nat, j ≤ xs.length ∧ iv = .int .i64 j ∧ Hid (∀ x ∈ xs.take j, Wt.lt x ⟨i, kd, s, n, b⟩) ∧ Hid (Blk wr bx #[.int .i64 i, .int .i64 kd, .int .i64 s, .int .i64 n, Str b] 30) ∧ Hid (Blk wr (bx + 1) #[.int .i64 kd, .int .i64 s, .int .i64 n, Str b] 28) ∧ Hid (Below w.heap.size w wr)) (fun iv _ => xs.length - (intOf iv).toNat)
  case atStart => exact ⟨0, Nat.zero_le _, rfl, Lib.hid (by simp), HX0, HC0, HB0⟩
  case round =>
    clear HX0 HC0 HB0 HA
    obtain ⟨j, hj, rfl, HN, HX, HC, HB⟩ := hrel
    have hji0 : (0 : Int) ≤ (j : Int) := by omega
    have HSG := Lib.hid (HS.out.chain HB.out)
    have y0 := HC.out.facts.1 0
    have y1 := HC.out.facts.1 1
    by_cases hlt : j < xs.length
    · obtain ⟨g, off, _, e, hgb, hgw, _⟩ := HSG.out.shape (by omega)
      cases e
      obtain ⟨c0, c1, c2, c3, c4⟩ := HSG.out.wt hlt
      have hji : (j : Int) < (xs.length : Int) := by omega
      have htk := List.take_succ_eq_append_getElem hlt
      have hins := fun (h2 : ¬ Wt.lt xs[j] ⟨i, kd, s, n, b⟩) => insW_at (d := ⟨i, kd, s, n, b⟩) hj HN.out (fun _ => h2)
      have hnk := HNK.out _ (List.getElem_mem hlt)
      obtain ⟨d, hd⟩ : ∃ d, xs[j] = d := ⟨_, rfl⟩
      rw [hd] at c0 c1 c2 c3 c4 htk hins hnk
      have HLT := Lib.hid hlt
      have HTK := Lib.hid htk
      obtain ⟨i3, k3, s3, n3, b3⟩ := d
      unfold Wt.key at hnk
      dsimp only at c0 c1 c2 c3 c4 hnk
      have hnx := fun (h : Wt.lt ⟨i3, k3, s3, n3, b3⟩ ⟨i, kd, s, n, b⟩) => (by
        rw [HTK.out]
        intro x hx
        rcases List.mem_append.1 hx with hx | hx
        · exact HN.out x hx
        · rw [List.mem_singleton.1 hx]
          exact h : ∀ x ∈ xs.take (j + 1), Wt.lt x ⟨i, kd, s, n, b⟩)
      clear htk hd hlt c0 c3 c4
      by_cases hs1 : s3 < s
      · have HN2 := Lib.hid (hnx (.inl hs1))
        clear hins hnk hnx
        go_upto_region 7 with fail
        refine wp_region_quiet_lit (by kernel_rfl) (by kernel_rfl) ?_
        repeat (first | go_big_quiet_step (fail) | quiet_step (fail))
        refine wpQuiet_nil ?_
        intro _ hw'
        obtain ⟨nq, hw''⟩ := hw'
        subst hw''
        have HX2 : Hid (Blk (wr.drewN nq) bx #[.int .i64 i, .int .i64 kd, .int .i64 s, .int .i64 n, Str b] 30) := Lib.hid HX.out
        have HC2 : Hid (Blk (wr.drewN nq) (bx + 1) #[.int .i64 kd, .int .i64 s, .int .i64 n, Str b] 28) := Lib.hid HC.out
        have HB2 := Lib.hid (below_drewN HB.out nq)
        clear y0 y1 c1 c2 HX HC HB HSG
        generalize wr.drewN nq = wz at *
        go_wp2_with fail
        go_roundw
        case measure => have := HLT.out; simp [intOf]; omega
        case rel => exact ⟨j + 1, HLT.out, by go_num, HN2, HX2, HC2, HB2⟩
      · by_cases hs2 : s3 = s
        · have hs2b : (s3 == s) = true := by simpa using hs2
          by_cases hk3 : k3 < kd
          · have HN2 := Lib.hid (hnx (.inr ⟨hs2, hk3⟩))
            clear hins hnk hnx hs2
            go_upto_region 7 with fail
            refine wp_region_quiet_lit (by kernel_rfl) (by kernel_rfl) ?_
            repeat (first | go_big_quiet_step (fail) | quiet_step (fail))
            refine wpQuiet_nil ?_
            intro _ hw'
            obtain ⟨nq, hw''⟩ := hw'
            subst hw''
            have HX2 : Hid (Blk (wr.drewN nq) bx #[.int .i64 i, .int .i64 kd, .int .i64 s, .int .i64 n, Str b] 30) := Lib.hid HX.out
            have HC2 : Hid (Blk (wr.drewN nq) (bx + 1) #[.int .i64 kd, .int .i64 s, .int .i64 n, Str b] 28) := Lib.hid HC.out
            have HB2 := Lib.hid (below_drewN HB.out nq)
            clear y0 y1 c1 c2 HX HC HB HSG
            generalize wr.drewN nq = wz at *
            go_wp2_with fail
            go_roundw
            case measure => have := HLT.out; simp [intOf]; omega
            case rel => exact ⟨j + 1, HLT.out, by go_num, HN2, HX2, HC2, HB2⟩
          · have HINS := Lib.hid (hins (by unfold Wt.lt; dsimp only; omega))
            clear hins hnk hnx hs2
            go_upto_region 7 with fail
            refine wp_region_quiet_lit (by kernel_rfl) (by kernel_rfl) ?_
            repeat (first | go_big_quiet_step (fail) | quiet_step (fail))
            refine wpQuiet_nil ?_
            intro _ hw'
            obtain ⟨nq, hw''⟩ := hw'
            subst hw''
            have HX2 : Hid (Blk (wr.drewN nq) bx #[.int .i64 i, .int .i64 kd, .int .i64 s, .int .i64 n, Str b] 30) := Lib.hid HX.out
            have HC2 : Hid (Blk (wr.drewN nq) (bx + 1) #[.int .i64 kd, .int .i64 s, .int .i64 n, Str b] 28) := Lib.hid HC.out
            have HB2 := Lib.hid (below_drewN HB.out nq)
            clear y0 y1 c1 c2 HX HC HB HSG HC2
            generalize wr.drewN nq = wz at *
            have HSW := Lib.hid (HS.out.chain HB2.out)
            have hcj : (j : Int) < (cap : Int) ∧ (cap : Int) ≤ 9223372036854775807 := by
              rcases HSW.out.2 with ⟨h0, _⟩ | ⟨_, _, _, _, hv, _, _, hn, hc, _⟩
              · cases h0
              · cases hv
                have := HLT.out
                unfold maxLen at hc
                omega
            obtain ⟨hcj, hcm⟩ := hcj
            have hjc : (j : Int) ≤ (cap : Int) := by omega
            have hc2 : ¬ (j : Int) = (cap : Int) := by omega
            have hc3 : ¬ (cap : Int) = (j : Int) := by omega
            have hc4 : ¬ j = cap := by omega
            have hc5 : ¬ cap = j := by omega
            have hjl := HLT.out
            have HR1 : Hid (RdS wz 5 (.slice (some ⟨g, off, none⟩) j cap) j (wtS (xs.take j))) := Lib.hid (by rw [wtS_take]; exact (HSW.out.upto j hj).rds)
            have HQ1 : Hid (0 + j ≤ maxLen ∧ (0 + j) * 48 ≤ 140737488355328) := Lib.hid (by unfold maxLen; omega)
            have HQ2 : Hid (j + 1 ≤ maxLen ∧ (j + 1) * 48 ≤ 140737488355328) := Lib.hid (by unfold maxLen; omega)
            have HQ3 : Hid (j + 1 + (xs.length - j) ≤ maxLen ∧ (j + 1 + (xs.length - j)) * 48 ≤ 140737488355328) := Lib.hid (by unfold maxLen; omega)
            go_wp2_with (first | (at_builtin; refine wpList_append_rds rfl (.tmp 77) (.tmp 80) 26 rfl wz.heap.size 30 i0 _ 5 48 Try.underlying26 hi hz0 hz1 hz2 rfl (by decide) (.slice none 0 0) 0 [] rfl (Seg.nil _ _ _ _) (.slice (some ⟨g, off, none⟩) j cap) j (wtS (xs.take j)) rfl HR1.out (one_wtS _) HQ1.out.1 HQ1.out.2 (Nat.le_refl _) ?_; intro v3 w3 hown3 hgrow3 hat3; rw [List.nil_append, Nat.zero_add] at hown3; have hb3 : Below wz.heap.size wz w3 := (Only.grown (S := []) (Only.refl _ _) hgrow3 (fun x hx => by cases hx)).nil; have HO3 := Lib.hid hown3; have HB3 := Lib.hid hb3; obtain ⟨a3, c3, rfl⟩ := hown3.form; have hx3 := HX2.out.below hb3 HX2.out.lt; have e0 := hx3.facts.1 0; have e1 := hx3.facts.1 1; have e2 := hx3.facts.1 2; have e3 := hx3.facts.1 3; have e4 := hx3.facts.1 4; have hcn := Lib.hid (cells_new w3 (wtC ⟨i, kd, s, n, b⟩) 30); have hq3 : Hid (wz.heap.size ≤ (w3.alloc (.cells #[.int .i64 i, .int .i64 kd, .int .i64 s, .int .i64 n, Str b] 30)).heap.size) := Lib.hid (by rw [size_alloc]; have := hb3.size; omega); clear hown3 hgrow3 hat3 hb3 hx3) | (at_builtin; refine wpList_append_seg _ rfl (.tmp 82) (.tmp 84) 26 rfl wz.heap.size 30 i0 _ 5 48 Try.underlying26 hi hz0 hz1 hz2 rfl (by decide) (.slice a3 j c3) j (wtS (xs.take j)) rfl (HO3.out.alloc _) ⟨w3.heap.size, 0, none⟩ 1 1 (wtC ⟨i, kd, s, n, b⟩) rfl rfl hcn.out (one_wtC _) (by decide) HQ2.out.1 HQ2.out.2 hq3.out (w3.heap.size + 1) (by simp) ?_; intro g4 o4 c4 w4 hown4 hgrow4 hat4; have hb4 : Hid (Below wz.heap.size wz w4) := Lib.hid ((Only.grown (S := []) (((Only.of_below HB3.out)).alloc _) hgrow4 (fun x hx => .inr (HO3.out.blk x hx).1)).nil); have HO4 := Lib.hid hown4; have HS4 := Lib.hid (HSW.out.chain hb4.out); have HR5 : Hid (RdS w4 5 (.slice (some ⟨g, off + j * 5, none⟩) (xs.length - j) (cap - j)) ((xs.length - j)) (wtS (xs.drop j))) := Lib.hid (by rw [wtS_drop]; exact (HS4.out.from' j hj _ (.inl rfl)).rds); have HSZ4 : Hid (wz.heap.size ≤ w4.heap.size) := Lib.hid hb4.out.size; clear hown4 hgrow4 hat4 e0 e1 e2 e3 e4 hcn) | (at_builtin; refine wpList_append_rds rfl (.tmp 86) (.tmp 89) 26 rfl wz.heap.size 30 i0 _ 5 48 Try.underlying26 hi hz0 hz1 hz2 rfl (by decide) (.slice (some ⟨g4, o4, none⟩) (j + 1) c4) (j + 1) (wtS (xs.take j) ++ wtC ⟨i, kd, s, n, b⟩) rfl HO4.out (.slice (some ⟨g, off + j * 5, none⟩) (xs.length - j) (cap - j)) ((xs.length - j)) (wtS (xs.drop j)) rfl HR5.out (one_wtS _) HQ3.out.1 HQ3.out.2 HSZ4.out ?_; intro v6 w6 hown6 hgrow6 hat6; have HO6 := Lib.hid hown6; have HB6 := Lib.hid ((Only.grown (S := []) (Only.of_below hb4.out) hgrow6 (fun x hx => .inr (HO4.out.blk x hx).1)).nil); obtain ⟨a6, c6, rfl⟩ := hown6.form; clear hown6 hgrow6 hat6))
            go_ret2
            have hlen : (insW ⟨i, kd, s, n, b⟩ xs).length = j + 1 + (xs.length - j) := by
              rw [HINS.out]
              simp <;> omega
            have hcell : wtS (insW ⟨i, kd, s, n, b⟩ xs) = wtS (xs.take j) ++ wtC ⟨i, kd, s, n, b⟩ ++ wtS (xs.drop j) := by
              rw [HINS.out]
              simp [wtS]
            refine ⟨.slice a6 (j + 1 + (xs.length - j)) c6, rfl, ?_, Below.chain HB6.out HB2.out⟩
            rw [hlen, hcell]
            exact HO6.out.le HB2.out.size
        · have hs2b : (s3 == s) = false := beq_eq_false_iff_ne.2 hs2
          have HINS := Lib.hid (hins (by unfold Wt.lt; dsimp only; omega))
          clear hins hnk hnx hs2
          go_upto_region 7 with fail
          refine wp_region_quiet_lit (by kernel_rfl) (by kernel_rfl) ?_
          repeat (first | go_big_quiet_step (fail) | quiet_step (fail))
          refine wpQuiet_nil ?_
          intro _ hw'
          obtain ⟨nq, hw''⟩ := hw'
          subst hw''
          have HX2 : Hid (Blk (wr.drewN nq) bx #[.int .i64 i, .int .i64 kd, .int .i64 s, .int .i64 n, Str b] 30) := Lib.hid HX.out
          have HC2 : Hid (Blk (wr.drewN nq) (bx + 1) #[.int .i64 kd, .int .i64 s, .int .i64 n, Str b] 28) := Lib.hid HC.out
          have HB2 := Lib.hid (below_drewN HB.out nq)
          clear y0 y1 c1 c2 HX HC HB HSG HC2
          generalize wr.drewN nq = wz at *
          have HSW := Lib.hid (HS.out.chain HB2.out)
          have hcj : (j : Int) < (cap : Int) ∧ (cap : Int) ≤ 9223372036854775807 := by
            rcases HSW.out.2 with ⟨h0, _⟩ | ⟨_, _, _, _, hv, _, _, hn, hc, _⟩
            · cases h0
            · cases hv
              have := HLT.out
              unfold maxLen at hc
              omega
          obtain ⟨hcj, hcm⟩ := hcj
          have hjc : (j : Int) ≤ (cap : Int) := by omega
          have hc2 : ¬ (j : Int) = (cap : Int) := by omega
          have hc3 : ¬ (cap : Int) = (j : Int) := by omega
          have hc4 : ¬ j = cap := by omega
          have hc5 : ¬ cap = j := by omega
          have hjl := HLT.out
          have HR1 : Hid (RdS wz 5 (.slice (some ⟨g, off, none⟩) j cap) j (wtS (xs.take j))) := Lib.hid (by rw [wtS_take]; exact (HSW.out.upto j hj).rds)
          have HQ1 : Hid (0 + j ≤ maxLen ∧ (0 + j) * 48 ≤ 140737488355328) := Lib.hid (by unfold maxLen; omega)
          have HQ2 : Hid (j + 1 ≤ maxLen ∧ (j + 1) * 48 ≤ 140737488355328) := Lib.hid (by unfold maxLen; omega)
          have HQ3 : Hid (j + 1 + (xs.length - j) ≤ maxLen ∧ (j + 1 + (xs.length - j)) * 48 ≤ 140737488355328) := Lib.hid (by unfold maxLen; omega)
          go_wp2_with (first | (at_builtin; refine wpList_append_rds rfl (.tmp 77) (.tmp 80) 26 rfl wz.heap.size 30 i0 _ 5 48 Try.underlying26 hi hz0 hz1 hz2 rfl (by decide) (.slice none 0 0) 0 [] rfl (Seg.nil _ _ _ _) (.slice (some ⟨g, off, none⟩) j cap) j (wtS (xs.take j)) rfl HR1.out (one_wtS _) HQ1.out.1 HQ1.out.2 (Nat.le_refl _) ?_; intro v3 w3 hown3 hgrow3 hat3; rw [List.nil_append, Nat.zero_add] at hown3; have hb3 : Below wz.heap.size wz w3 := (Only.grown (S := []) (Only.refl _ _) hgrow3 (fun x hx => by cases hx)).nil; have HO3 := Lib.hid hown3; have HB3 := Lib.hid hb3; obtain ⟨a3, c3, rfl⟩ := hown3.form; have hx3 := HX2.out.below hb3 HX2.out.lt; have e0 := hx3.facts.1 0; have e1 := hx3.facts.1 1; have e2 := hx3.facts.1 2; have e3 := hx3.facts.1 3; have e4 := hx3.facts.1 4; have hcn := Lib.hid (cells_new w3 (wtC ⟨i, kd, s, n, b⟩) 30); have hq3 : Hid (wz.heap.size ≤ (w3.alloc (.cells #[.int .i64 i, .int .i64 kd, .int .i64 s, .int .i64 n, Str b] 30)).heap.size) := Lib.hid (by rw [size_alloc]; have := hb3.size; omega); clear hown3 hgrow3 hat3 hb3 hx3) | (at_builtin; refine wpList_append_seg _ rfl (.tmp 82) (.tmp 84) 26 rfl wz.heap.size 30 i0 _ 5 48 Try.underlying26 hi hz0 hz1 hz2 rfl (by decide) (.slice a3 j c3) j (wtS (xs.take j)) rfl (HO3.out.alloc _) ⟨w3.heap.size, 0, none⟩ 1 1 (wtC ⟨i, kd, s, n, b⟩) rfl rfl hcn.out (one_wtC _) (by decide) HQ2.out.1 HQ2.out.2 hq3.out (w3.heap.size + 1) (by simp) ?_; intro g4 o4 c4 w4 hown4 hgrow4 hat4; have hb4 : Hid (Below wz.heap.size wz w4) := Lib.hid ((Only.grown (S := []) (((Only.of_below HB3.out)).alloc _) hgrow4 (fun x hx => .inr (HO3.out.blk x hx).1)).nil); have HO4 := Lib.hid hown4; have HS4 := Lib.hid (HSW.out.chain hb4.out); have HR5 : Hid (RdS w4 5 (.slice (some ⟨g, off + j * 5, none⟩) (xs.length - j) (cap - j)) ((xs.length - j)) (wtS (xs.drop j))) := Lib.hid (by rw [wtS_drop]; exact (HS4.out.from' j hj _ (.inl rfl)).rds); have HSZ4 : Hid (wz.heap.size ≤ w4.heap.size) := Lib.hid hb4.out.size; clear hown4 hgrow4 hat4 e0 e1 e2 e3 e4 hcn) | (at_builtin; refine wpList_append_rds rfl (.tmp 86) (.tmp 89) 26 rfl wz.heap.size 30 i0 _ 5 48 Try.underlying26 hi hz0 hz1 hz2 rfl (by decide) (.slice (some ⟨g4, o4, none⟩) (j + 1) c4) (j + 1) (wtS (xs.take j) ++ wtC ⟨i, kd, s, n, b⟩) rfl HO4.out (.slice (some ⟨g, off + j * 5, none⟩) (xs.length - j) (cap - j)) ((xs.length - j)) (wtS (xs.drop j)) rfl HR5.out (one_wtS _) HQ3.out.1 HQ3.out.2 HSZ4.out ?_; intro v6 w6 hown6 hgrow6 hat6; have HO6 := Lib.hid hown6; have HB6 := Lib.hid ((Only.grown (S := []) (Only.of_below hb4.out) hgrow6 (fun x hx => .inr (HO4.out.blk x hx).1)).nil); obtain ⟨a6, c6, rfl⟩ := hown6.form; clear hown6 hgrow6 hat6))
          go_ret2
          have hlen : (insW ⟨i, kd, s, n, b⟩ xs).length = j + 1 + (xs.length - j) := by
            rw [HINS.out]
            simp <;> omega
          have hcell : wtS (insW ⟨i, kd, s, n, b⟩ xs) = wtS (xs.take j) ++ wtC ⟨i, kd, s, n, b⟩ ++ wtS (xs.drop j) := by
            rw [HINS.out]
            simp [wtS]
          refine ⟨.slice a6 (j + 1 + (xs.length - j)) c6, rfl, ?_, Below.chain HB6.out HB2.out⟩
          rw [hlen, hcell]
          exact HO6.out.le HB2.out.size
    · obtain rfl : j = xs.length := by omega
      have hlt' : ¬ (xs.length : Int) < (xs.length : Int) := by omega
      have HINS := Lib.hid (insW_at (d := ⟨i, kd, s, n, b⟩) hj HN.out (fun h => absurd h hlt))
      have hdr0 : wtS (xs.drop xs.length) = [] := by rw [List.drop_length]; rfl
      have HDR0 := Lib.hid hdr0
      clear hdr0
      rcases HSG.out.2 with ⟨h0, hx3⟩ | ⟨g, off, cap', cur, hv, _⟩
      · obtain ⟨rfl, _, rfl⟩ := Value.slice.inj h0
        have hx : xs = [] := List.eq_nil_of_length_eq_zero hx3
        subst hx
        go_upto_region 7 with fail
        refine wp_region_quiet_lit (by kernel_rfl) (by kernel_rfl) ?_
        repeat (first | go_big_quiet_step (fail) | quiet_step (fail))
        refine wpQuiet_nil ?_
        intro _ hw'
        obtain ⟨nq, hw''⟩ := hw'
        subst hw''
        have HX2 : Hid (Blk (wr.drewN nq) bx #[.int .i64 i, .int .i64 kd, .int .i64 s, .int .i64 n, Str b] 30) := Lib.hid HX.out
        have HC2 : Hid (Blk (wr.drewN nq) (bx + 1) #[.int .i64 kd, .int .i64 s, .int .i64 n, Str b] 28) := Lib.hid HC.out
        have HB2 := Lib.hid (below_drewN HB.out nq)
        clear y0 y1  HX HC HB HSG HC2
        generalize wr.drewN nq = wz at *
        have HSW := Lib.hid (HS.out.chain HB2.out)
        have HR1 : Hid (RdS wz 5 (.slice none 0 0) 0 (wtS (([] : List Wt).take 0))) := Lib.hid (by rw [wtS_take]; exact (HSW.out.upto 0 hj).rds)
        have HQ1 : Hid (0 + 0 ≤ maxLen ∧ (0 + 0) * 48 ≤ 140737488355328) := Lib.hid (by unfold maxLen; omega)
        have HQ2 : Hid (0 + 1 ≤ maxLen ∧ (0 + 1) * 48 ≤ 140737488355328) := Lib.hid (by unfold maxLen; omega)
        have HQ3 : Hid (0 + 1 + 0 ≤ maxLen ∧ (0 + 1 + 0) * 48 ≤ 140737488355328) := Lib.hid (by unfold maxLen; omega)
        go_wp2_with (first | (at_builtin; refine wpList_append_rds rfl (.tmp 77) (.tmp 80) 26 rfl wz.heap.size 30 i0 _ 5 48 Try.underlying26 hi hz0 hz1 hz2 rfl (by decide) (.slice none 0 0) 0 [] rfl (Seg.nil _ _ _ _) (.slice none 0 0) 0 (wtS (([] : List Wt).take 0)) rfl HR1.out (one_wtS _) HQ1.out.1 HQ1.out.2 (Nat.le_refl _) ?_; intro v3 w3 hown3 hgrow3 hat3; rw [List.nil_append, Nat.zero_add] at hown3; have hb3 : Below wz.heap.size wz w3 := (Only.grown (S := []) (Only.refl _ _) hgrow3 (fun x hx => by cases hx)).nil; have HO3 := Lib.hid hown3; have HB3 := Lib.hid hb3; obtain ⟨a3, c3, rfl⟩ := hown3.form; have hx3 := HX2.out.below hb3 HX2.out.lt; have e0 := hx3.facts.1 0; have e1 := hx3.facts.1 1; have e2 := hx3.facts.1 2; have e3 := hx3.facts.1 3; have e4 := hx3.facts.1 4; have hcn := Lib.hid (cells_new w3 (wtC ⟨i, kd, s, n, b⟩) 30); have hq3 : Hid (wz.heap.size ≤ (w3.alloc (.cells #[.int .i64 i, .int .i64 kd, .int .i64 s, .int .i64 n, Str b] 30)).heap.size) := Lib.hid (by rw [size_alloc]; have := hb3.size; omega); clear hown3 hgrow3 hat3 hb3 hx3) | (at_builtin; refine wpList_append_seg _ rfl (.tmp 82) (.tmp 84) 26 rfl wz.heap.size 30 i0 _ 5 48 Try.underlying26 hi hz0 hz1 hz2 rfl (by decide) (.slice a3 0 c3) 0 (wtS (([] : List Wt).take 0)) rfl (HO3.out.alloc _) ⟨w3.heap.size, 0, none⟩ 1 1 (wtC ⟨i, kd, s, n, b⟩) rfl rfl hcn.out (one_wtC _) (by decide) HQ2.out.1 HQ2.out.2 hq3.out (w3.heap.size + 1) (by simp) ?_; intro g4 o4 c4 w4 hown4 hgrow4 hat4; have hb4 : Hid (Below wz.heap.size wz w4) := Lib.hid ((Only.grown (S := []) (((Only.of_below HB3.out)).alloc _) hgrow4 (fun x hx => .inr (HO3.out.blk x hx).1)).nil); have HO4 := Lib.hid hown4; have HS4 := Lib.hid (HSW.out.chain hb4.out); have HR5 : Hid (RdS w4 5 (.slice none 0 0) (0) (wtS (([] : List Wt).drop 0))) := Lib.hid (⟨by simp [wtS], .inl ⟨rfl, _, _, rfl⟩⟩); have HSZ4 : Hid (wz.heap.size ≤ w4.heap.size) := Lib.hid hb4.out.size; clear hown4 hgrow4 hat4 e0 e1 e2 e3 e4 hcn) | (at_builtin; refine wpList_append_rds rfl (.tmp 86) (.tmp 89) 26 rfl wz.heap.size 30 i0 _ 5 48 Try.underlying26 hi hz0 hz1 hz2 rfl (by decide) (.slice (some ⟨g4, o4, none⟩) (0 + 1) c4) (0 + 1) (wtS (([] : List Wt).take 0) ++ wtC ⟨i, kd, s, n, b⟩) rfl HO4.out (.slice none 0 0) (0) (wtS (([] : List Wt).drop 0)) rfl HR5.out (one_wtS _) HQ3.out.1 HQ3.out.2 HSZ4.out ?_; intro v6 w6 hown6 hgrow6 hat6; have HO6 := Lib.hid hown6; have HB6 := Lib.hid ((Only.grown (S := []) (Only.of_below hb4.out) hgrow6 (fun x hx => .inr (HO4.out.blk x hx).1)).nil); obtain ⟨a6, c6, rfl⟩ := hown6.form; clear hown6 hgrow6 hat6))
        go_ret2
        have hlen : (insW ⟨i, kd, s, n, b⟩ ([] : List Wt)).length = 0 + 1 + 0 := by
          rw [HINS.out]
          simp <;> omega
        have hcell : wtS (insW ⟨i, kd, s, n, b⟩ ([] : List Wt)) = wtS (([] : List Wt).take 0) ++ wtC ⟨i, kd, s, n, b⟩ ++ wtS (([] : List Wt).drop 0) := by
          rw [HINS.out]
          simp [wtS]
        refine ⟨.slice a6 (0 + 1 + 0) c6, rfl, ?_, Below.chain HB6.out HB2.out⟩
        rw [hlen, hcell]
        exact HO6.out.le HB2.out.size
      · cases hv
        have hcm : (cap : Int) ≤ 9223372036854775807 ∧ (xs.length : Int) ≤ (cap : Int) := by
          rcases HSG.out.2 with ⟨h0, _⟩ | ⟨_, _, _, _, hv, _, _, hn, hc, _⟩
          · cases h0
          · cases hv
            unfold maxLen at hc
            omega
        obtain ⟨hcm, hcn⟩ := hcm
        by_cases hc : cap = xs.length
        · subst hc
          go_upto_region 7 with fail
          refine wp_region_quiet_lit (by kernel_rfl) (by kernel_rfl) ?_
          repeat (first | go_big_quiet_step (fail) | quiet_step (fail))
          refine wpQuiet_nil ?_
          intro _ hw'
          obtain ⟨nq, hw''⟩ := hw'
          subst hw''
          have HX2 : Hid (Blk (wr.drewN nq) bx #[.int .i64 i, .int .i64 kd, .int .i64 s, .int .i64 n, Str b] 30) := Lib.hid HX.out
          have HC2 : Hid (Blk (wr.drewN nq) (bx + 1) #[.int .i64 kd, .int .i64 s, .int .i64 n, Str b] 28) := Lib.hid HC.out
          have HB2 := Lib.hid (below_drewN HB.out nq)
          clear y0 y1  HX HC HB HSG HC2
          generalize wr.drewN nq = wz at *
          have HSW := Lib.hid (HS.out.chain HB2.out)
          have HR1 : Hid (RdS wz 5 (.slice (some ⟨g, off, none⟩) xs.length xs.length) xs.length (wtS (xs.take xs.length))) := Lib.hid (by rw [wtS_take]; exact (HSW.out.upto xs.length hj).rds)
          have HQ1 : Hid (0 + xs.length ≤ maxLen ∧ (0 + xs.length) * 48 ≤ 140737488355328) := Lib.hid (by unfold maxLen; omega)
          have HQ2 : Hid (xs.length + 1 ≤ maxLen ∧ (xs.length + 1) * 48 ≤ 140737488355328) := Lib.hid (by unfold maxLen; omega)
          have HQ3 : Hid (xs.length + 1 + 0 ≤ maxLen ∧ (xs.length + 1 + 0) * 48 ≤ 140737488355328) := Lib.hid (by unfold maxLen; omega)
          go_wp2_with (first | (at_builtin; refine wpList_append_rds rfl (.tmp 77) (.tmp 80) 26 rfl wz.heap.size 30 i0 _ 5 48 Try.underlying26 hi hz0 hz1 hz2 rfl (by decide) (.slice none 0 0) 0 [] rfl (Seg.nil _ _ _ _) (.slice (some ⟨g, off, none⟩) xs.length xs.length) xs.length (wtS (xs.take xs.length)) rfl HR1.out (one_wtS _) HQ1.out.1 HQ1.out.2 (Nat.le_refl _) ?_; intro v3 w3 hown3 hgrow3 hat3; rw [List.nil_append, Nat.zero_add] at hown3; have hb3 : Below wz.heap.size wz w3 := (Only.grown (S := []) (Only.refl _ _) hgrow3 (fun x hx => by cases hx)).nil; have HO3 := Lib.hid hown3; have HB3 := Lib.hid hb3; obtain ⟨a3, c3, rfl⟩ := hown3.form; have hx3 := HX2.out.below hb3 HX2.out.lt; have e0 := hx3.facts.1 0; have e1 := hx3.facts.1 1; have e2 := hx3.facts.1 2; have e3 := hx3.facts.1 3; have e4 := hx3.facts.1 4; have hcn := Lib.hid (cells_new w3 (wtC ⟨i, kd, s, n, b⟩) 30); have hq3 : Hid (wz.heap.size ≤ (w3.alloc (.cells #[.int .i64 i, .int .i64 kd, .int .i64 s, .int .i64 n, Str b] 30)).heap.size) := Lib.hid (by rw [size_alloc]; have := hb3.size; omega); clear hown3 hgrow3 hat3 hb3 hx3) | (at_builtin; refine wpList_append_seg _ rfl (.tmp 82) (.tmp 84) 26 rfl wz.heap.size 30 i0 _ 5 48 Try.underlying26 hi hz0 hz1 hz2 rfl (by decide) (.slice a3 xs.length c3) xs.length (wtS (xs.take xs.length)) rfl (HO3.out.alloc _) ⟨w3.heap.size, 0, none⟩ 1 1 (wtC ⟨i, kd, s, n, b⟩) rfl rfl hcn.out (one_wtC _) (by decide) HQ2.out.1 HQ2.out.2 hq3.out (w3.heap.size + 1) (by simp) ?_; intro g4 o4 c4 w4 hown4 hgrow4 hat4; have hb4 : Hid (Below wz.heap.size wz w4) := Lib.hid ((Only.grown (S := []) (((Only.of_below HB3.out)).alloc _) hgrow4 (fun x hx => .inr (HO3.out.blk x hx).1)).nil); have HO4 := Lib.hid hown4; have HS4 := Lib.hid (HSW.out.chain hb4.out); have HR5 : Hid (RdS w4 5 (.slice (some ⟨g, off, none⟩) 0 0) (0) (wtS (xs.drop xs.length))) := Lib.hid (by rw [HDR0.out]; exact ⟨by simp, .inl ⟨rfl, _, _, rfl⟩⟩); have HSZ4 : Hid (wz.heap.size ≤ w4.heap.size) := Lib.hid hb4.out.size; clear hown4 hgrow4 hat4 e0 e1 e2 e3 e4 hcn) | (at_builtin; refine wpList_append_rds rfl (.tmp 86) (.tmp 89) 26 rfl wz.heap.size 30 i0 _ 5 48 Try.underlying26 hi hz0 hz1 hz2 rfl (by decide) (.slice (some ⟨g4, o4, none⟩) (xs.length + 1) c4) (xs.length + 1) (wtS (xs.take xs.length) ++ wtC ⟨i, kd, s, n, b⟩) rfl HO4.out (.slice (some ⟨g, off, none⟩) 0 0) (0) (wtS (xs.drop xs.length)) rfl HR5.out (one_wtS _) HQ3.out.1 HQ3.out.2 HSZ4.out ?_; intro v6 w6 hown6 hgrow6 hat6; have HO6 := Lib.hid hown6; have HB6 := Lib.hid ((Only.grown (S := []) (Only.of_below hb4.out) hgrow6 (fun x hx => .inr (HO4.out.blk x hx).1)).nil); obtain ⟨a6, c6, rfl⟩ := hown6.form; clear hown6 hgrow6 hat6))
          go_ret2
          have hlen : (insW ⟨i, kd, s, n, b⟩ xs).length = xs.length + 1 + 0 := by
            rw [HINS.out]
            simp <;> omega
          have hcell : wtS (insW ⟨i, kd, s, n, b⟩ xs) = wtS (xs.take xs.length) ++ wtC ⟨i, kd, s, n, b⟩ ++ wtS (xs.drop xs.length) := by
            rw [HINS.out]
            simp [wtS]
          refine ⟨.slice a6 (xs.length + 1 + 0) c6, rfl, ?_, Below.chain HB6.out HB2.out⟩
          rw [hlen, hcell]
          exact HO6.out.le HB2.out.size
        · have hc' : ¬ (cap : Int) = (xs.length : Int) := by omega
          have hc2 : ¬ (xs.length : Int) = (cap : Int) := by omega
          have hc3 : ¬ xs.length = cap := by omega
          go_upto_region 7 with fail
          refine wp_region_quiet_lit (by kernel_rfl) (by kernel_rfl) ?_
          repeat (first | go_big_quiet_step (fail) | quiet_step (fail))
          refine wpQuiet_nil ?_
          intro _ hw'
          obtain ⟨nq, hw''⟩ := hw'
          subst hw''
          have HX2 : Hid (Blk (wr.drewN nq) bx #[.int .i64 i, .int .i64 kd, .int .i64 s, .int .i64 n, Str b] 30) := Lib.hid HX.out
          have HC2 : Hid (Blk (wr.drewN nq) (bx + 1) #[.int .i64 kd, .int .i64 s, .int .i64 n, Str b] 28) := Lib.hid HC.out
          have HB2 := Lib.hid (below_drewN HB.out nq)
          clear y0 y1  HX HC HB HSG HC2
          generalize wr.drewN nq = wz at *
          have HSW := Lib.hid (HS.out.chain HB2.out)
          have HR1 : Hid (RdS wz 5 (.slice (some ⟨g, off, none⟩) xs.length cap) xs.length (wtS (xs.take xs.length))) := Lib.hid (by rw [wtS_take]; exact (HSW.out.upto xs.length hj).rds)
          have HQ1 : Hid (0 + xs.length ≤ maxLen ∧ (0 + xs.length) * 48 ≤ 140737488355328) := Lib.hid (by unfold maxLen; omega)
          have HQ2 : Hid (xs.length + 1 ≤ maxLen ∧ (xs.length + 1) * 48 ≤ 140737488355328) := Lib.hid (by unfold maxLen; omega)
          have HQ3 : Hid (xs.length + 1 + 0 ≤ maxLen ∧ (xs.length + 1 + 0) * 48 ≤ 140737488355328) := Lib.hid (by unfold maxLen; omega)
          go_wp2_with (first | (at_builtin; refine wpList_append_rds rfl (.tmp 77) (.tmp 80) 26 rfl wz.heap.size 30 i0 _ 5 48 Try.underlying26 hi hz0 hz1 hz2 rfl (by decide) (.slice none 0 0) 0 [] rfl (Seg.nil _ _ _ _) (.slice (some ⟨g, off, none⟩) xs.length cap) xs.length (wtS (xs.take xs.length)) rfl HR1.out (one_wtS _) HQ1.out.1 HQ1.out.2 (Nat.le_refl _) ?_; intro v3 w3 hown3 hgrow3 hat3; rw [List.nil_append, Nat.zero_add] at hown3; have hb3 : Below wz.heap.size wz w3 := (Only.grown (S := []) (Only.refl _ _) hgrow3 (fun x hx => by cases hx)).nil; have HO3 := Lib.hid hown3; have HB3 := Lib.hid hb3; obtain ⟨a3, c3, rfl⟩ := hown3.form; have hx3 := HX2.out.below hb3 HX2.out.lt; have e0 := hx3.facts.1 0; have e1 := hx3.facts.1 1; have e2 := hx3.facts.1 2; have e3 := hx3.facts.1 3; have e4 := hx3.facts.1 4; have hcn := Lib.hid (cells_new w3 (wtC ⟨i, kd, s, n, b⟩) 30); have hq3 : Hid (wz.heap.size ≤ (w3.alloc (.cells #[.int .i64 i, .int .i64 kd, .int .i64 s, .int .i64 n, Str b] 30)).heap.size) := Lib.hid (by rw [size_alloc]; have := hb3.size; omega); clear hown3 hgrow3 hat3 hb3 hx3) | (at_builtin; refine wpList_append_seg _ rfl (.tmp 82) (.tmp 84) 26 rfl wz.heap.size 30 i0 _ 5 48 Try.underlying26 hi hz0 hz1 hz2 rfl (by decide) (.slice a3 xs.length c3) xs.length (wtS (xs.take xs.length)) rfl (HO3.out.alloc _) ⟨w3.heap.size, 0, none⟩ 1 1 (wtC ⟨i, kd, s, n, b⟩) rfl rfl hcn.out (one_wtC _) (by decide) HQ2.out.1 HQ2.out.2 hq3.out (w3.heap.size + 1) (by simp) ?_; intro g4 o4 c4 w4 hown4 hgrow4 hat4; have hb4 : Hid (Below wz.heap.size wz w4) := Lib.hid ((Only.grown (S := []) (((Only.of_below HB3.out)).alloc _) hgrow4 (fun x hx => .inr (HO3.out.blk x hx).1)).nil); have HO4 := Lib.hid hown4; have HS4 := Lib.hid (HSW.out.chain hb4.out); have HR5 : Hid (RdS w4 5 (.slice (some ⟨g, off + xs.length * 5, none⟩) 0 (cap - xs.length)) (0) (wtS (xs.drop xs.length))) := Lib.hid (by rw [HDR0.out]; exact ⟨by simp, .inl ⟨rfl, _, _, rfl⟩⟩); have HSZ4 : Hid (wz.heap.size ≤ w4.heap.size) := Lib.hid hb4.out.size; clear hown4 hgrow4 hat4 e0 e1 e2 e3 e4 hcn) | (at_builtin; refine wpList_append_rds rfl (.tmp 86) (.tmp 89) 26 rfl wz.heap.size 30 i0 _ 5 48 Try.underlying26 hi hz0 hz1 hz2 rfl (by decide) (.slice (some ⟨g4, o4, none⟩) (xs.length + 1) c4) (xs.length + 1) (wtS (xs.take xs.length) ++ wtC ⟨i, kd, s, n, b⟩) rfl HO4.out (.slice (some ⟨g, off + xs.length * 5, none⟩) 0 (cap - xs.length)) (0) (wtS (xs.drop xs.length)) rfl HR5.out (one_wtS _) HQ3.out.1 HQ3.out.2 HSZ4.out ?_; intro v6 w6 hown6 hgrow6 hat6; have HO6 := Lib.hid hown6; have HB6 := Lib.hid ((Only.grown (S := []) (Only.of_below hb4.out) hgrow6 (fun x hx => .inr (HO4.out.blk x hx).1)).nil); obtain ⟨a6, c6, rfl⟩ := hown6.form; clear hown6 hgrow6 hat6))
          go_ret2
          have hlen : (insW ⟨i, kd, s, n, b⟩ xs).length = xs.length + 1 + 0 := by
            rw [HINS.out]
            simp <;> omega
          have hcell : wtS (insW ⟨i, kd, s, n, b⟩ xs) = wtS (xs.take xs.length) ++ wtC ⟨i, kd, s, n, b⟩ ++ wtS (xs.drop xs.length) := by
            rw [HINS.out]
            simp [wtS]
          refine ⟨.slice a6 (xs.length + 1 + 0) c6, rfl, ?_, Below.chain HB6.out HB2.out⟩
          rw [hlen, hcell]
          exact HO6.out.le HB2.out.size
end Go.Proofs.Ytjfmjehacaemcaa
