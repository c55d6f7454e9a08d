/-
  Calls that wait: the document's at, Get, Same, Drop (chapter 29).
-/
import Derived.Test.YtjfmjehacaemcaaCl5
namespace Go.Proofs.Ytjfmjehacaemcaa
open Go Go.RowKit
set_option linter.unusedVariables false
set_option maxRecDepth 100000
set_option maxHeartbeats 4000000
theorem getW_idx {k : Int × Int} {d : Wt} : ∀ {xs : List Wt}, getW k xs = some d → ∃ (j : Nat) (hj : j < xs.length), xs[j] = d ∧ (∀ x ∈ xs.take j, x.key ≠ k) ∧ d.key = k
  | [], h => by cases h
  | x :: xs, h => by
    by_cases hx : x.key = k
    · simp [getW, hx] at h
      subst h
      exact ⟨0, by simp, rfl, by simp, hx⟩
    · simp [getW, hx] at h
      obtain ⟨j, hj, h1, h2, h3⟩ := getW_idx h
      refine ⟨j + 1, by simpa using hj, by simpa using h1, fun y hy => ?_, h3⟩
      rw [List.take_succ_cons] at hy
      rcases List.mem_cons.1 hy with rfl | hy
      · exact hx
      · exact h2 y hy
theorem rat29_no (s kd : Int) (base : Nat) (v : Value) (xs : List Wt) (w : World) (hs : Seg w base 30 5 v xs.length (wtS xs)) (hl : xs.length ≤ 1000) (hk : ∀ x ∈ xs, x.key ≠ (s, kd)) :
    Calls Try.prog 17 #[v, .int .i64 s, .int .i64 kd] w fun e w' => e = .returned (.int .i64 (-1)) ∧ w = w' := by
  obtain ⟨ao, cap, rfl⟩ := hs.form
  have HS := Lib.hid hs
  have HK := Lib.hid hk
  have hmx : xs.length ≤ 9223372036854775807 := by omega
  clear hs hk
  go_enter Try.func17, Try.ntmps17
  go_wp2_with fail
  go_loop [7] (fun i => ∃ j : Nat, j ≤ xs.length ∧ i = .int .i64 j) (fun i => xs.length - (intOf i).toNat)
  case atStart => exact ⟨0, Nat.zero_le _, rfl⟩
  case round =>
    obtain ⟨j, hj, rfl⟩ := hrel
    by_cases hlt : j < xs.length
    · obtain ⟨g, off, _, e, hgb, hgw, _⟩ := HS.out.shape (by omega)
      cases e
      obtain ⟨c0, c1, c2, c3, c4⟩ := HS.out.wt hlt
      have hji : (j : Int) < (xs.length : Int) := by omega
      have hne := HK.out _ (List.getElem_mem hlt)
      obtain ⟨d, hd⟩ : ∃ d, xs[j] = d := ⟨_, rfl⟩
      rw [hd] at c0 c1 c2 c3 c4 hne
      have HLT := Lib.hid hlt
      obtain ⟨i, k2, s2, n, b⟩ := d
      unfold Wt.key at hne
      dsimp only at c0 c1 c2 c3 c4 hne
      clear hd hlt c0 c3 c4
      by_cases h1 : s2 = s
      · have h2 : ¬ k2 = kd := fun e => hne (by rw [h1, e])
        have h2b : (k2 == kd) = false := beq_eq_false_iff_ne.2 h2
        subst h1
        clear hne h2
        go_wp2_with fail
        go_round
        case measure => have := HLT.out; simp [intOf]; omega
        case rel => exact ⟨j + 1, HLT.out, by go_num⟩
      · have h1b : (s2 == s) = false := beq_eq_false_iff_ne.2 h1
        clear hne h1
        go_wp2_with fail
        go_round
        case measure => have := HLT.out; simp [intOf]; omega
        case rel => exact ⟨j + 1, HLT.out, by go_num⟩
    · obtain rfl : j = xs.length := by omega
      have hlt' : ¬ (xs.length : Int) < (xs.length : Int) := by omega
      go_wp2_with fail
      go_ret
      exact ⟨rfl, rfl⟩
theorem rat29_yes (s kd : Int) (m : Nat) (base : Nat) (v : Value) (xs : List Wt) (w : World) (hs : Seg w base 30 5 v xs.length (wtS xs)) (hl : xs.length ≤ 1000) (hm : m < xs.length) (hk : ∀ x ∈ xs.take m, x.key ≠ (s, kd)) (hmk : xs[m].key = (s, kd)) :
    Calls Try.prog 17 #[v, .int .i64 s, .int .i64 kd] w fun e w' => e = .returned (.int .i64 (m : Nat)) ∧ w = w' := by
  obtain ⟨ao, cap, rfl⟩ := hs.form
  have HS := Lib.hid hs
  have HK := Lib.hid hk
  have HMK := Lib.hid hmk
  have HM := Lib.hid hm
  have hmx : xs.length ≤ 9223372036854775807 := by omega
  clear hs hk hmk
  go_enter Try.func17, Try.ntmps17
  go_wp2_with fail
  go_loop [7] (fun i => ∃ j : Nat, j ≤ m ∧ i = .int .i64 j) (fun i => xs.length - (intOf i).toNat)
  case atStart => exact ⟨0, Nat.zero_le _, rfl⟩
  case round =>
    obtain ⟨j, hj, rfl⟩ := hrel
    have hlt : j < xs.length := by have := HM.out; omega
    obtain ⟨g, off, _, e, hgb, hgw, _⟩ := HS.out.shape (by omega)
    cases e
    obtain ⟨c0, c1, c2, c3, c4⟩ := HS.out.wt hlt
    have hji : (j : Int) < (xs.length : Int) := by omega
    have hne : j < m → xs[j].key ≠ (s, kd) := fun h => HK.out _ (by
      rw [List.mem_take_iff_getElem]
      exact ⟨j, by omega, rfl⟩)
    have heq : j = m → xs[j].key = (s, kd) := fun h => by subst h; exact HMK.out
    obtain ⟨d, hd⟩ : ∃ d, xs[j] = d := ⟨_, rfl⟩
    rw [hd] at c0 c1 c2 c3 c4 hne heq
    have HLT := Lib.hid hlt
    obtain ⟨i, k2, s2, n, b⟩ := d
    unfold Wt.key at hne heq
    dsimp only at c0 c1 c2 c3 c4 hne heq
    clear hd hlt c0 c3 c4
    by_cases hjm : j = m
    · have h := heq hjm
      obtain ⟨rfl, rfl⟩ : s2 = s ∧ k2 = kd := ⟨congrArg Prod.fst h, congrArg Prod.snd h⟩
      subst hjm
      clear hne heq h
      go_wp2_with fail
      go_ret
      exact ⟨rfl, rfl⟩
    · have hjl : j < m := by omega
      have hne := hne hjl
      have HJL := Lib.hid hjl
      clear heq hjm hjl
      by_cases h1 : s2 = s
      · have h2 : ¬ k2 = kd := fun e => hne (by rw [h1, e])
        have h2b : (k2 == kd) = false := beq_eq_false_iff_ne.2 h2
        subst h1
        clear hne h2
        go_wp2_with fail
        go_round
        case measure => have := HLT.out; simp [intOf]; omega
        case rel => exact ⟨j + 1, HJL.out, by go_num⟩
      · have h1b : (s2 == s) = false := beq_eq_false_iff_ne.2 h1
        clear hne h1
        go_wp2_with fail
        go_round
        case measure => have := HLT.out; simp [intOf]; omega
        case rel => exact ⟨j + 1, HJL.out, by go_num⟩
theorem rget29_no (s kd : Int) (base : Nat) (v : Value) (xs : List Wt) (w : World) (hs : Seg w base 30 5 v xs.length (wtS xs)) (hl : xs.length ≤ 1000) (hk : getW (s, kd) xs = none) :
    Calls Try.prog 8 #[v, .int .i64 s, .int .i64 kd] w fun e w' => e = .returned (.tuple #[wt0.val, .bool false]) ∧ Below w.heap.size w w' := by
  have HA := Lib.hid (rat29_no s kd base v xs _ (hs.alloc (.cells #[.int .i64 0, .int .i64 0, .int .i64 0, .int .i64 0, .string ⟨#[]⟩] 30)) hl (getW_none.1 hk))
  obtain ⟨ao, cap, rfl⟩ := hs.form
  clear hs hk
  go_enter Try.func8, Try.ntmps8
  go_wp2_with fail
  refine HA.out.mono ?_
  rintro e w1 ⟨rfl, rfl⟩
  go_wp2_with fail
  refine bodyPost_ret (v := .tuple #[wt0.val, .bool false]) (by simp [results, Try.results8, go_sem, wt0, Wt.val]) rfl ⟨rfl, ?_⟩
  exact Below.chainAlloc (Below.refl _ _) _
theorem rget29_yes (s kd : Int) (d : Wt) (base : Nat) (v : Value) (xs : List Wt) (w : World) (hs : Seg w base 30 5 v xs.length (wtS xs)) (hl : xs.length ≤ 1000) (hk : getW (s, kd) xs = some d) :
    Calls Try.prog 8 #[v, .int .i64 s, .int .i64 kd] w fun e w' => e = .returned (.tuple #[d.val, .bool true]) ∧ Below w.heap.size w w' := by
  obtain ⟨m, hm, hd, hne, hkey⟩ := getW_idx hk
  have hs2 := hs.alloc (.cells #[.int .i64 0, .int .i64 0, .int .i64 0, .int .i64 0, .string ⟨#[]⟩] 30)
  have HA := Lib.hid (rat29_yes s kd m base v xs _ hs2 hl hm hne (by rw [hd]; exact hkey))
  obtain ⟨g, off, cap, rfl, _, _, _⟩ := hs.shape (by omega)
  obtain ⟨c0, c1, c2, c3, c4⟩ := hs2.wt hm
  rw [hd] at c0 c1 c2 c3 c4
  obtain ⟨i, k2, s2, n, b⟩ := d
  have hmi : (m : Int) < (xs.length : Int) := by omega
  have hm0 : ¬ (m : Int) < 0 := by omega
  have hm00 : (0 : Int) ≤ (m : Int) := by omega
  dsimp only at c0 c1 c2 c3 c4
  clear hs hs2 hk hd hne hkey hm
  go_enter Try.func8, Try.ntmps8
  go_wp2_with fail
  refine HA.out.mono ?_
  rintro e w1 ⟨rfl, rfl⟩
  go_wp2_with fail
  refine bodyPost_ret (v := .tuple #[Wt.val ⟨i, k2, s2, n, b⟩, .bool true]) (by simp [results, Try.results8, go_sem, Wt.val]) rfl ⟨rfl, ?_⟩
  exact Below.chainAlloc (Below.refl _ _) _
theorem rsame29_yes (v1 v2 : Value) (b1 b2 : Nat) (xs : List Wt) (w : World) (h1 : Seg w b1 30 5 v1 xs.length (wtS xs)) (h2 : Seg w b2 30 5 v2 xs.length (wtS xs)) (hl : xs.length ≤ 1000) :
    Calls Try.prog 13 #[v1, v2] w fun e w' => e = .returned (.bool true) ∧ Below w.heap.size w w' := by
  obtain ⟨a1, k1, rfl⟩ := h1.form
  obtain ⟨a2, k2, rfl⟩ := h2.form
  have H1 := Lib.hid h1
  have H2 := Lib.hid h2
  have hmx : xs.length ≤ 9223372036854775807 := by omega
  have hmi : (xs.length : Int) ≤ 1000 := by omega
  clear h1 h2
  go_enter Try.func13, Try.ntmps13
  go_wp2_with fail
  go_loopw [5] (fun i wr => ∃ j : Nat, j ≤ xs.length ∧ i = .int .i64 j ∧ Hid (Below w.heap.size w wr)) (fun i _ => xs.length - (intOf i).toNat)
  case atStart => exact ⟨0, Nat.zero_le _, rfl, Lib.hid (Below.refl _ _)⟩
  case round =>
    obtain ⟨j, hj, rfl, HB⟩ := hrel
    by_cases hlt : j < xs.length
    · have s1 := H1.out.chain HB.out
      have s2 := H2.out.chain HB.out
      obtain ⟨g1, o1, _, e, _⟩ := s1.shape (by omega)
      cases e
      obtain ⟨g2, o2, _, e, _⟩ := s2.shape (by omega)
      cases e
      obtain ⟨c0, c1, c2, c3, c4⟩ := s1.wt hlt
      obtain ⟨d0, d1, d2, d3, d4⟩ := s2.wt hlt
      have hji : (j : Int) < (xs.length : Int) := by omega
      obtain ⟨d, hd⟩ : ∃ d, xs[j] = d := ⟨_, rfl⟩
      rw [hd] at c0 c1 c2 c3 c4 d0 d1 d2 d3 d4
      have HLT := Lib.hid hlt
      obtain ⟨i, kd, s, n, b⟩ := d
      dsimp only at c0 c1 c2 c3 c4 d0 d1 d2 d3 d4
      have hg1 := fun x y w => run_eqGuard_agg (P := Try.prog) w .neq 30 x y #[.int .i64 i, .int .i64 kd, .int .i64 s, .int .i64 n, Str b] #[.int .i64 i, .int .i64 kd, .int .i64 s, .int .i64 n, Str b] guardWait
      have he : ∀ w, (binOp .neq 30 (.agg #[.int .i64 i, .int .i64 kd, .int .i64 s, .int .i64 n, Str b]) (.agg #[.int .i64 i, .int .i64 kd, .int .i64 s, .int .i64 n, Str b])).run Try.prog w = .ok (.bool false) w := fun w => by
        have := run_neq_wait w ⟨i, kd, s, n, b⟩ ⟨i, kd, s, n, b⟩
        rw [decide_eq_true rfl] at this
        exact this
      clear hd s1 s2 hlt
      go_upto_region 6 with fail
      go_quiet (fail)
      have HB2 := Lib.hid (below_drewN HB.out nq)
      clear c0 c1 c2 c3 c4 d0 d1 d2 d3 d4 hg1 he HB
      generalize wr.drewN nq = w5 at *
      go_wp2_with fail
      go_roundw
      case measure => have := HLT.out; simp [intOf]; omega
      case rel => exact ⟨j + 1, HLT.out, by go_num, HB2⟩
    · obtain rfl : j = xs.length := by omega
      have hlt' : ¬ (xs.length : Int) < (xs.length : Int) := by omega
      go_wp2_with fail
      go_ret
      exact ⟨rfl, HB.out⟩
end Go.Proofs.Ytjfmjehacaemcaa
