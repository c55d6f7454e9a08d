/-
  Timers: the document's Due, Same (chapter 13).
-/
import Derived.Test.YtphejbjbleeigaaTm8
namespace Go.Proofs.Ytphejbjbleeigaa
open Go Go.RowKit
set_option linter.unusedVariables false
set_option maxRecDepth 100000
set_option maxHeartbeats 4000000
theorem tw_take {α : Type} {p : α → Bool} : ∀ {xs : List α} {i : Nat}, i ≤ xs.length → (∀ x ∈ xs.take i, p x = true) → (∀ h : i < xs.length, p xs[i] = false) → xs.takeWhile p = xs.take i ∧ xs.dropWhile p = xs.drop i
  | [], i, _, _, _ => by simp
  | x :: xs, 0, _, _, h => by
    have hx : p x = false := h (by simp)
    simp [hx]
  | x :: xs, i + 1, hi, h1, h2 => by
    have hx : p x = true := h1 x (by simp)
    obtain ⟨e1, e2⟩ := tw_take (p := p) (xs := xs) (i := i) (by simpa using hi) (fun y hy => h1 y (by simp [hy])) (fun h => by
      have := h2 (by simpa using h)
      simpa using this)
    simp [hx, e1, e2]
theorem duS_take : ∀ (xs : List Du) (i : Nat), duS (xs.take i) = (duS xs).take (i * 3)
  | [], i => by simp [duS]
  | x :: xs, 0 => by simp [duS]
  | x :: xs, i + 1 => by
    have ih := duS_take xs i
    unfold duS at *
    rw [List.take_succ_cons, List.flatMap_cons, List.flatMap_cons, ih, Nat.succ_mul, Nat.add_comm (i * 3), ← duC_len x, List.take_length_add_append]
theorem duS_drop : ∀ (xs : List Du) (i : Nat), duS (xs.drop i) = (duS xs).drop (i * 3)
  | [], i => by simp [duS]
  | x :: xs, 0 => by simp [duS]
  | x :: xs, i + 1 => by
    have ih := duS_drop xs i
    unfold duS at *
    rw [List.drop_succ_cons, List.flatMap_cons, ih, Nat.succ_mul, Nat.add_comm (i * 3), ← duC_len x, List.drop_length_add_append]
/-- The answer of the document's Due: the first ones, the others, of the same block. -/
def RDuePost (now : Int) (base : Nat) (v : Value) (xs : List Du) (w : World) (e : Ending) (w' : World) : Prop :=
  ∃ v1 v2, e = .returned (.tuple #[v1, v2]) ∧ Seg w' base 96 3 v1 (xs.takeWhile (dueB now)).length (duS (xs.takeWhile (dueB now))) ∧ Seg w' base 96 3 v2 (xs.dropWhile (dueB now)).length (duS (xs.dropWhile (dueB now))) ∧
    v1.ownBlock = v.ownBlock ∧ v2.ownBlock = v.ownBlock ∧ Below w.heap.size w w'
theorem rdue_end {now : Int} {base : Nat} {a : Option Addr} {cap : Nat} {xs : List Du} {w w' : World} {j : Nat} {v2 : Value} (hs : Seg w base 96 3 (.slice a xs.length cap) xs.length (duS xs)) (hb : Below w.heap.size w w') (hj : j ≤ xs.length) (h1 : ∀ x ∈ xs.take j, dueB now x = true) (h2 : ∀ h : j < xs.length, dueB now xs[j] = false)
    (hv : (a = none ∧ v2 = .slice none (xs.length - j) (cap - j)) ∨ ∃ g off off', a = some ⟨g, off, none⟩ ∧ v2 = .slice (some ⟨g, off', none⟩) (xs.length - j) (cap - j) ∧ (off' = off + j * 3 ∨ j = cap ∧ off' = off)) :
    RDuePost now base (.slice a xs.length cap) xs w (.returned (.tuple #[.slice a j cap, v2])) w' := by
  obtain ⟨e1, e2⟩ := tw_take hj h1 h2
  have hs' := hs.chain hb
  have hl1 : (xs.take j).length = j := by rw [List.length_take]; omega
  have hl2 : (xs.drop j).length = xs.length - j := List.length_drop
  unfold RDuePost
  rw [e1, e2, hl1, hl2, duS_take, duS_drop]
  refine ⟨_, _, rfl, hs'.upto j hj, ?_, ?_, ?_, hb⟩
  · rcases hv with ⟨rfl, rfl⟩ | ⟨g, off, off', rfl, rfl, ho⟩
    · rcases hs'.2 with ⟨h0, h3⟩ | ⟨_, _, _, _, hv, _⟩
      · have hcap : cap = 0 := by simpa using (Value.slice.inj h0).2.2
        subst hcap
        have hj0 : j = 0 := by omega
        have hx : duS xs = [] := List.eq_nil_of_length_eq_zero (by rw [duS_len, h3])
        rw [hx, h3, hj0]
        simpa using Seg.nil _ _ _ _
      · cases hv
    · exact hs'.from' j hj off' ho
  · cases a <;> rfl
  · rcases hv with ⟨rfl, rfl⟩ | ⟨g, off, off', rfl, rfl, ho⟩ <;> rfl
theorem rdue13_any (now : Int) (base : Nat) (v : Value) (xs : List Du) (w : World) (hs : Seg w base 96 3 v xs.length (duS xs)) (hl : xs.length ≤ 1000) :
    Calls Try.prog 97 #[v, .int .i64 now] w (RDuePost now base v xs w) := by
  obtain ⟨ao, cap, rfl⟩ := hs.form
  have HS := Lib.hid hs
  have hmx : xs.length ≤ 9223372036854775807 := by omega
  have hcm : (cap : Int) ≤ 9223372036854775807 ∧ (xs.length : Int) ≤ (cap : Int) := by
    rcases hs.2 with ⟨h0, h3⟩ | ⟨g, off, cap', cur, hv, _, _, hn, hc, _⟩
    · have hcap : cap = 0 := by simpa using (Value.slice.inj h0).2.2
      omega
    · cases hv
      unfold maxLen at hc
      omega
  obtain ⟨hcm, hcn⟩ := hcm
  clear hs
  go_enter Try.func97, Try.ntmps97
  go_wp2_with fail
  go_loop [6] (fun i => ∃ j : Nat, j ≤ xs.length ∧ i = .int .i64 j ∧ Hid (∀ x ∈ xs.take j, dueB now x = true)) (fun i => xs.length - (intOf i).toNat)
  case atStart => exact ⟨0, Nat.zero_le _, rfl, Lib.hid (by simp)⟩
  case round =>
    obtain ⟨j, hj, rfl, HN⟩ := hrel
    have hjc : (j : Int) ≤ (cap : Int) := by omega
    have hj0 : (0 : Int) ≤ (j : Int) := by omega
    have hjn : (j : Int) ≤ (xs.length : Int) := by omega
    by_cases hlt : j < xs.length
    · obtain ⟨g, off, _, e, hgb, hgw, _⟩ := HS.out.shape (by omega)
      cases e
      obtain ⟨c0, c1, c2⟩ := HS.out.du hlt
      have hji : (j : Int) < (xs.length : Int) := by omega
      have htk := List.take_succ_eq_append_getElem hlt
      have hend := fun v2 w' (hb : Below w.heap.size w w') (h2 : dueB now xs[j] = false) hv => rdue_end (now := now) (v2 := v2) HS.out hb hj HN.out (fun _ => h2) hv
      obtain ⟨d, hd⟩ : ∃ d, xs[j] = d := ⟨_, rfl⟩
      rw [hd] at c0 c1 c2 htk hend
      have HLT := Lib.hid hlt
      obtain ⟨a, b, z⟩ := d
      dsimp only at c0 c1 c2
      by_cases hz : z ≤ now
      · have HN2 : Hid (∀ x ∈ xs.take (j + 1), dueB now x = true) := Lib.hid (by
          rw [htk]
          intro x hx
          rcases List.mem_append.1 hx with hx | hx
          · exact HN.out x hx
          · rw [List.mem_singleton.1 hx]
            simp [dueB, hz])
        clear htk hend hd hlt
        go_wp2_with fail
        go_round
        case measure => have := HLT.out; simp [intOf]; omega
        case rel => exact ⟨j + 1, HLT.out, by go_num, HN2⟩
      · have HE := Lib.hid (fun v2 w' hb hv => hend v2 w' hb (by simp [dueB]; omega) hv)
        clear htk hend hd hlt
        have hc' : ¬ (cap : Int) = (j : Int) := by omega
        have hc2 : ¬ (j : Int) = (cap : Int) := by omega
        have hc3 : ¬ j = cap := by omega
        have hc4 : ¬ cap = j := by omega
        go_wp2_with fail
        go_quiet (fail)
        go_wp2_with fail
        go_ret2
        exact HE.out _ _ (below_drewN (Below.refl _ _) _) (.inr ⟨g, off, off + j * 3, rfl, rfl, .inl rfl⟩)
    · obtain rfl : j = xs.length := by omega
      have hlt' : ¬ (xs.length : Int) < (xs.length : Int) := by omega
      have HE := Lib.hid (fun v2 w' (hb : Below w.heap.size w w') hv => rdue_end (now := now) (v2 := v2) HS.out hb hj HN.out (fun h => absurd h hlt) hv)
      rcases HS.out.2 with ⟨h0, h3⟩ | ⟨g, off, cap', cur, hv, _⟩
      · obtain ⟨rfl, _, rfl⟩ := Value.slice.inj h0
        have hx : xs = [] := List.eq_nil_of_length_eq_zero h3
        subst hx
        go_wp2_with fail
        go_quiet (fail)
        go_wp2_with fail
        go_ret2
        exact HE.out _ _ (below_drewN (Below.refl _ _) _) (.inl ⟨by trivial, by simp⟩)
      · cases hv
        by_cases hc : cap = xs.length
        · have hc1 : (cap : Int) = (xs.length : Int) := by omega
          have HC := Lib.hid hc
          subst hc
          go_wp2_with fail
          go_quiet (fail)
          go_wp2_with fail
          go_ret2
          exact HE.out _ _ (below_drewN (Below.refl _ _) _) (.inr ⟨g, off, off, by trivial, by simp, .inr ⟨by trivial, by trivial⟩⟩)
        · have hc' : ¬ (cap : Int) = (xs.length : Int) := by omega
          have hc2 : ¬ (xs.length : Int) = (cap : Int) := by omega
          have hc3 : ¬ xs.length = cap := by omega
          go_wp2_with fail
          go_quiet (fail)
          go_wp2_with fail
          go_ret2
          exact HE.out _ _ (below_drewN (Below.refl _ _) _) (.inr ⟨g, off, off + xs.length * 3, by trivial, by simp, .inl (by trivial)⟩)
theorem rsame13_yes (v1 v2 : Value) (b1 b2 : Nat) (xs : List Du) (w : World) (h1 : Seg w b1 96 3 v1 xs.length (duS xs)) (h2 : Seg w b2 96 3 v2 xs.length (duS xs)) (hl : xs.length ≤ 1000) :
    Calls Try.prog 98 #[v1, v2] w fun e w' => e = .returned (.bool true) ∧ Below w.heap.size w w' := by
  obtain ⟨a1, k1, rfl⟩ := h1.form
  obtain ⟨a2, k2, rfl⟩ := h2.form
  have H1 := Lib.hid h1
  have H2 := Lib.hid h2
  have hmx : xs.length ≤ 9223372036854775807 := by omega
  have hmi : (xs.length : Int) ≤ 1000 := by omega
  clear h1 h2
  go_enter Try.func98, Try.ntmps98
  go_wp2_with fail
  go_loopw [5] (fun i wr => ∃ j : Nat, j ≤ xs.length ∧ i = .int .i64 j ∧ Hid (Below w.heap.size w wr)) (fun i _ => xs.length - (intOf i).toNat)
  case atStart => exact ⟨0, Nat.zero_le _, rfl, Lib.hid (Below.refl _ _)⟩
  case round =>
    obtain ⟨j, hj, rfl, HB⟩ := hrel
    by_cases hlt : j < xs.length
    · have s1 := H1.out.chain HB.out
      have s2 := H2.out.chain HB.out
      obtain ⟨g1, o1, _, e, _⟩ := s1.shape (by omega)
      cases e
      obtain ⟨g2, o2, _, e, _⟩ := s2.shape (by omega)
      cases e
      obtain ⟨c0, c1, c2⟩ := s1.du hlt
      obtain ⟨d0, d1, d2⟩ := s2.du hlt
      have hji : (j : Int) < (xs.length : Int) := by omega
      obtain ⟨d, hd⟩ : ∃ d, xs[j] = d := ⟨_, rfl⟩
      rw [hd] at c0 c1 c2 d0 d1 d2
      have HLT := Lib.hid hlt
      have hg1 := fun x y w => run_eqGuard_agg (P := Try.prog) w .neq 96 x y #[.int .i64 d.s, .int .u32 d.b, .int .i64 d.at_] #[.int .i64 d.s, .int .u32 d.b, .int .i64 d.at_] guardDue
      have he : ∀ w, (binOp .neq 96 (.agg #[.int .i64 d.s, .int .u32 d.b, .int .i64 d.at_]) (.agg #[.int .i64 d.s, .int .u32 d.b, .int .i64 d.at_])).run Try.prog w = .ok (.bool false) w := fun w => by
        have := run_neq_due w d d
        rw [decide_eq_true rfl] at this
        exact this
      clear hd s1 s2 hlt
      go_upto_region 6 with fail
      go_quiet (fail)
      have HB2 := Lib.hid (below_drewN HB.out nq)
      clear c0 c1 c2 d0 d1 d2 hg1 he HB
      generalize wr.drewN nq = w5 at *
      go_wp2_with fail
      go_roundw
      case measure => have := HLT.out; simp [intOf]; omega
      case rel => exact ⟨j + 1, HLT.out, by go_num, HB2⟩
    · obtain rfl : j = xs.length := by omega
      have hlt' : ¬ (xs.length : Int) < (xs.length : Int) := by omega
      go_wp2_with fail
      go_ret
      exact ⟨rfl, HB.out⟩
end Go.Proofs.Ytphejbjbleeigaa
