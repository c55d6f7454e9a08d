/-
  Timers: the document's less, At, Drop, Due, Same (chapter 13).
-/
import Derived.Test.YtphejbjbleeigaaTm6
namespace Go.Proofs.Ytphejbjbleeigaa
open Go Go.RowKit
set_option linter.unusedVariables false
set_option maxRecDepth 100000
set_option maxHeartbeats 4000000
theorem rless_any (x y : Du) (w : World) : Calls Try.prog 128 #[x.val, y.val] w fun e w' => e = .returned (.bool (decide (Du.lt x y))) ∧ Below w.heap.size w w' := by
  obtain ⟨a, b, z⟩ := x
  obtain ⟨c, d, u⟩ := y
  have hB := Below.chainAlloc (Below.chainAlloc (Below.refl _ w) (.cells #[.int .i64 a, .int .u32 b, .int .i64 z] 96)) (.cells #[.int .i64 c, .int .u32 d, .int .i64 u] 96)
  have k1 := (Blk.new w #[.int .i64 a, .int .u32 b, .int .i64 z] 96).alloc (.cells #[.int .i64 c, .int .u32 d, .int .i64 u] 96)
  have k2 := Blk.new (w.alloc (.cells #[.int .i64 a, .int .u32 b, .int .i64 z] 96)) #[.int .i64 c, .int .u32 d, .int .i64 u] 96
  rw [size_alloc] at k2
  have x0 := k1.facts.1 0
  have x1 := k1.facts.1 1
  have x2 := k1.facts.1 2
  have y0 := k2.facts.1 0
  have y1 := k2.facts.1 1
  have y2 := k2.facts.1 2
  have HB := Lib.hid hB
  clear hB k1 k2
  unfold Du.val
  by_cases h1 : z = u
  · subst h1
    by_cases h2 : a = c
    · subst h2
      have hr : decide (Du.lt ⟨a, b, z⟩ ⟨a, d, z⟩) = decide (b < d) := by
        apply decide_eq_decide.2
        unfold Du.lt
        dsimp only
        omega
      rw [hr]
      clear hr
      go_enter Try.func128, Try.ntmps128
      go_wp2_with fail
      go_ret
      exact ⟨rfl, HB.out⟩
    · have h2' : (a != c) = true := by simpa using h2
      have hr : decide (Du.lt ⟨a, b, z⟩ ⟨c, d, z⟩) = decide (a < c) := by
        apply decide_eq_decide.2
        unfold Du.lt
        dsimp only
        omega
      rw [hr]
      clear hr
      go_enter Try.func128, Try.ntmps128
      go_wp2_with fail
      go_ret
      exact ⟨rfl, HB.out⟩
  · have h1' : (z != u) = true := by simpa using h1
    have hr : decide (Du.lt ⟨a, b, z⟩ ⟨c, d, u⟩) = decide (z < u) := by
      apply decide_eq_decide.2
      unfold Du.lt
      dsimp only
      omega
    rw [hr]
    clear hr
    go_enter Try.func128, Try.ntmps128
    go_wp2_with fail
    go_ret
    exact ⟨rfl, HB.out⟩
theorem atD_notin {k : Int × Int} {xs : List Du} (h : ∀ x ∈ xs, x.key ≠ k) : atD k xs = none := atD_none.2 h
theorem atD_first {k : Int × Int} : ∀ {xs : List Du} {j : Nat} (hj : j < xs.length), (∀ x ∈ xs.take j, x.key ≠ k) → xs[j].key = k → atD k xs = some xs[j].at_
  | x :: xs, 0, _, _, h => by simp only [List.getElem_cons_zero] at h ⊢; simp [atD, h]
  | x :: xs, j + 1, hj, h, h' => by
    have hx : ¬ x.key = k := h x (by simp)
    simp only [List.getElem_cons_succ] at h' ⊢
    simp only [atD, if_neg hx]
    exact atD_first (by simpa using hj) (fun y hy => h y (by simp [hy])) h'
theorem rat_any (k : Int × Int) (base : Nat) (v : Value) (xs : List Du) (w : World) (hs : Seg w base 96 3 v xs.length (duS xs)) (hl : xs.length ≤ 1000) :
    Calls Try.prog 52 #[v, encK k] w fun e w' => e = .returned (.tuple #[.int .i64 ((atD k xs).getD 0), .bool (atD k xs).isSome]) ∧ Below w.heap.size w w' := by
  obtain ⟨ka, kb⟩ := k
  obtain ⟨ao, cap, rfl⟩ := hs.form
  have hB := Below.chainAlloc (Below.refl _ w) (.cells #[.int .i64 ka, .int .u32 kb] 69)
  have hkb := Blk.new w #[.int .i64 ka, .int .u32 kb] 69
  have HS := Lib.hid hs
  have HB := Lib.hid hB
  have HKB := Lib.hid hkb
  have hmx : xs.length ≤ 9223372036854775807 := by omega
  obtain ⟨B, hBB⟩ : ∃ B, w.heap.size = B := ⟨_, rfl⟩
  have HBB := Lib.hid hBB
  rw [hBB] at HKB
  unfold encK
  dsimp only
  clear hs hB hkb hBB
  go_enter Try.func52, Try.ntmps52
  go_wp2_with fail
  rw [HBB.out]
  go_loopw [6] (fun i wr => ∃ j : Nat, j ≤ xs.length ∧ i = .int .i64 j ∧ Hid (∀ x ∈ xs.take j, x.key ≠ (ka, kb)) ∧ Hid (Blk wr B #[.int .i64 ka, .int .u32 kb] 69) ∧ Hid (Below w.heap.size w wr)) (fun i _ => xs.length - (intOf i).toNat)
  case atStart => exact ⟨0, Nat.zero_le _, rfl, Lib.hid (by simp), HKB, HB⟩
  case round =>
    clear HKB HB
    obtain ⟨j, hj, rfl, HN, HKB, HB⟩ := hrel
    by_cases hlt : j < xs.length
    · have hsg := HS.out.chain HB.out
      obtain ⟨g, off, _, e, hgb, hgw, _⟩ := hsg.shape (by omega)
      cases e
      obtain ⟨c0, c1, c2⟩ := hsg.du hlt
      have z0 := HKB.out.facts.1 0
      have z1 := HKB.out.facts.1 1
      have hji : (j : Int) < (xs.length : Int) := by omega
      have htk := List.take_succ_eq_append_getElem hlt
      obtain ⟨d, hd⟩ : ∃ d, xs[j] = d := ⟨_, rfl⟩
      have hfirst := fun h => atD_first hlt HN.out h
      rw [hd] at c0 c1 c2 htk hfirst
      have HLT := Lib.hid hlt
      obtain ⟨a, b, z⟩ := d
      dsimp only at c0 c1 c2
      have hg1 := fun x y w => run_eqGuard_agg (P := Try.prog) w .eql 69 x y #[.int .i64 a, .int .u32 b] #[.int .i64 ka, .int .u32 kb] guardKey
      have he := fun w => run_eql_key w (a, b) (ka, kb)
      unfold encK at he
      dsimp only at he
      by_cases hk : a = ka ∧ b = kb
      · obtain ⟨rfl, rfl⟩ := hk
        have HR := Lib.hid (hfirst rfl)
        rw [decide_eq_true rfl] at he
        clear hfirst htk hd hsg hlt
        go_upto_region 4 with fail
        go_quiet (fail)
        have HB2 := Lib.hid (below_drewN HB.out nq)
        clear z0 z1 hg1 he HN HKB HB
        have c2' : (wr.drewN nq).cell? ⟨g, off + j * 3 + 2, none⟩ = some (.int .i64 z) := c2
        generalize wr.drewN nq = w5 at *
        clear c0 c1 c2
        go_wp2_with fail
        go_ret2
        refine ⟨?_, HB2.out⟩
        rw [HR.out]
        rfl
      · have hk' : ¬ (a, b) = (ka, kb) := fun e => hk (by cases e; exact ⟨rfl, rfl⟩)
        have HN2 : Hid (∀ x ∈ xs.take (j + 1), x.key ≠ (ka, kb)) := Lib.hid (by
          rw [htk]
          intro x hx
          rcases List.mem_append.1 hx with hx | hx
          · exact HN.out x hx
          · rw [List.mem_singleton.1 hx]
            exact hk')
        rw [decide_eq_false hk'] at he
        clear hfirst htk hd hsg hlt hk'
        go_upto_region 4 with fail
        go_quiet (fail)
        have HB2 := Lib.hid (below_drewN HB.out nq)
        have HKB2 : Hid (Blk (wr.drewN nq) B #[.int .i64 ka, .int .u32 kb] 69) := Lib.hid HKB.out
        clear z0 z1 hg1 he HN HKB HB c0 c1 c2
        generalize wr.drewN nq = w5 at *
        go_wp2_with fail
        go_roundw
        case measure => have := HLT.out; simp [intOf]; omega
        case rel => exact ⟨j + 1, HLT.out, by go_num, HN2, HKB2, HB2⟩
    · obtain rfl : j = xs.length := by omega
      have hlt' : ¬ (xs.length : Int) < (xs.length : Int) := by omega
      have HR : Hid (atD (ka, kb) xs = none) := Lib.hid (atD_notin (by have := HN.out; rwa [List.take_length] at this))
      go_wp2_with fail
      go_ret2
      refine ⟨?_, HB.out⟩
      rw [HR.out]
      rfl
end Go.Proofs.Ytphejbjbleeigaa
