/-
  Cut: whether two lists of texts are the same; texts that came in; the answer of Cut, errors too (chapters 5 and 6).
-/
import Derived.Test.YtibilabhokkhmaaDoorCut3
import Derived.Test.YtibilabhokkhmaaDoorFlat
namespace Go.Proofs.YtibilabhokkhmaaDoor
open Go.RowKit
set_option linter.unusedVariables false
set_option maxRecDepth 100000
set_option maxHeartbeats 1000000
theorem take_ne_t {α : Type} {xs ys : List α} {k : Nat} (h1 : k < xs.length) (h2 : k < ys.length) (h : xs[k] ≠ ys[k]) : xs ≠ ys := fun e => h (by subst e; rfl)
theorem take_succ_t {α : Type} {xs ys : List α} {k : Nat} (h1 : k < xs.length) (h2 : k < ys.length) (h : xs[k] = ys[k]) (ht : xs.take k = ys.take k) : xs.take (k + 1) = ys.take (k + 1) := by
  rw [List.take_succ_eq_append_getElem h1, List.take_succ_eq_append_getElem h2, h, ht]
def textsB (xs ys : List (List UInt8)) : Bool := decide (xs = ys)
theorem strs_at {B : Nat} {w : World} {v : Value} {xs : List (List UInt8)} (h : SlAt B w 9 v (xs.map Str)) : ∃ a cap, v = .slice a xs.length cap ∧ xs.length ≤ 9223372036854775807 ∧ ∀ k (hk : k < xs.length), ∃ g off, a = some ⟨g, off, none⟩ ∧ g < w.heap.size ∧ w.cell? ⟨g, off + k, none⟩ = some (Str xs[k]) := by
  have hm := h.max
  obtain ⟨a, cap, hv, hat⟩ := h.at
  rw [List.length_map] at hv hm
  refine ⟨a, cap, hv, hm, fun k hk => ?_⟩
  obtain ⟨g, off, ha, hg, hc⟩ := hat k (by rw [List.length_map]; exact hk)
  exact ⟨g, off, ha, hg, by simpa using hc⟩
theorem texts_c {B1 B2 : Nat} {va vb : Value} {xs ys : List (List UInt8)} (w : World) (ha : SlAt B1 w 9 va (xs.map Str)) (hb : SlAt B2 w 9 vb (ys.map Str)) :
    Calls Tryd.prog 9 #[va, vb] w fun e w' => e = .returned (.bool (textsB xs ys)) ∧ Drawn w w' := by
  have ha0 := ha
  have hb0 := hb
  obtain ⟨aa, ca, rfl, hma, hca⟩ := strs_at ha
  obtain ⟨ab, cb, rfl, hmb, hcb⟩ := strs_at hb
  by_cases hlen : xs.length = ys.length
  · have hl : ((xs.length : Int) != (ys.length : Int)) = false := by simp [hlen]
    have HL := Lib.hid hlen
    clear hlen hca hcb
    go_enter Tryd.func9, Tryd.ntmps9
    go_wp2_with fail
    clear hl
    go_loopw [5] (fun i wr => ∃ k : Nat, k ≤ xs.length ∧ i = .int .i64 k ∧ xs.take k = ys.take k ∧ Drawn w wr) (fun i _ => xs.length - (intOf i).toNat)
    case atStart => exact ⟨0, by omega, rfl, rfl, Drawn.refl _⟩
    case round =>
      obtain ⟨k, hk, rfl, ht, hd⟩ := hrel
      have HT := Lib.hid ht
      clear ht
      by_cases hlt : k < xs.length
      · have hlt2 : k < ys.length := by rw [← HL.out]; exact hlt
        obtain ⟨_, _, e, _, h1⟩ := strs_at (ha0.chain hd.below)
        cases e
        obtain ⟨_, _, e, _, h2⟩ := strs_at (hb0.chain hd.below)
        cases e
        obtain ⟨g1, o1, rfl, hg1, c1⟩ := h1 k hlt
        obtain ⟨g2, o2, rfl, hg2, c2⟩ := h2 k hlt2
        clear h1 h2
        by_cases he : xs[k] = ys[k]
        · have HS := Lib.hid (take_succ_t hlt hlt2 he HT.out)
          rw [he] at c1
          clear he
          generalize ys[k] = x at *
          go_wp2_with fail
          go_quiet (fail)
          go_wp2_with fail
          go_roundw
          case rel => exact ⟨k + 1, by omega, by go_num, HS.out, hd.trans (Drawn.of_drewN _ _)⟩
          case measure => simp [intOf]; omega
        · have hne : textsB xs ys = false := by
            unfold textsB
            exact decide_eq_false (take_ne_t hlt hlt2 he)
          have HN := Lib.hid hne
          clear hne
          generalize xs[k] = x at *
          generalize ys[k] = y at *
          have hxy : (x == y) = false := by simpa using he
          go_wp2_with fail
          go_quiet (fail)
          go_wp2_with fail
          go_ret
          exact ⟨by rw [HN.out]; rfl, hd.trans (Drawn.of_drewN _ _)⟩
      · have hy : textsB xs ys = true := by
          unfold textsB
          refine decide_eq_true ?_
          have := HT.out
          rwa [List.take_of_length_le (by omega), List.take_of_length_le (by have := HL.out; omega)] at this
        have HY := Lib.hid hy
        have hlt' : ¬ (k : Int) < (xs.length : Int) := by omega
        clear hy
        go_wp2_with fail
        go_ret
        exact ⟨by rw [HY.out]; rfl, hd⟩
  · have hne : textsB xs ys = false := by
      unfold textsB
      exact decide_eq_false (fun e => hlen (by rw [e]))
    have HN := Lib.hid hne
    have hl : ((xs.length : Int) != (ys.length : Int)) = true := by simp; omega
    clear hne hlen
    go_enter Tryd.func9, Tryd.ntmps9
    go_wp2_with fail
    go_ret
    exact ⟨by rw [HN.out]; rfl, Drawn.refl _⟩
/-- Texts that came in. -/
theorem open_strs {H : Type} {enc : TypeId × Value → H} {W : World} {b : Nat} {sp : Nat → Bool} {hd : Bool} {a : Option Addr} {len cap : Nat} {d : DataW H} {p : List MemPlace}
    (h : DataW.Trod enc Tryd.prog W b sp hd 23 (.slice a len cap) d p) : ∃ ts : List (List UInt8), len = ts.length ∧ SlAt W.heap.size W 9 (.slice a len cap) (ts.map Str) ∧ ∀ t ∈ ts, t.length ≤ 9223372036854775807 := by
  obtain ⟨ts, ⟨h1, h2, h3, h4⟩, hg⟩ := open_rows (P := Tryd.prog) 1 (fun t : List UInt8 => [Str t]) (fun t => t.length ≤ 9223372036854775807) Tryd.underlying23 (by kernel_rfl) (by decide) h (fun cs m x hx => by
    obtain ⟨z, rfl, _, hl⟩ := DataW.trod_string Tryd.underlying9 hx
    obtain ⟨l, rfl⟩ := str_list z
    exact ⟨l, rfl, str_len hl⟩)
  refine ⟨ts, h1.symm, ⟨a, cap, by rw [List.length_map, h1], by rw [List.length_map, h1]; exact h2, h3, ?_⟩, hg⟩
  rcases h4 with h4 | ⟨g, off, ha, hlt, hc⟩
  · left
    rw [List.map_eq_nil_iff]
    exact List.eq_nil_of_length_eq_zero (by omega)
  · right
    refine ⟨g, off, ha, hlt, .inl hlt, fun j hj => ?_⟩
    have := hc j (by simpa using hj) 0 (by decide)
    rw [Nat.mul_one, Nat.add_zero] at this
    rw [this]
    simp
/-- What Cut answers. -/
def cutE (s : List UInt8) (k : Int) : Int := if k < 1 ∨ k > 32 then 1 else if s = [] ∨ (s.length : Int) > k * 1024 then 3 else 0
def cutT (s : List UInt8) (k : Int) : List (List UInt8) := if cutE s k = 0 then partsC s (sizeC (s.length : Nat) k).toNat k.toNat else []
theorem size_facts (L k : Nat) (hk0 : 1 ≤ k) (hk : k ≤ 32) (h0 : 0 < L) (hL : L ≤ k * 1024) : ∃ n : Nat, sizeC (L : Nat) (k : Nat) = (n : Int) ∧ L ≤ n * k ∧ n ≤ 1024 ∧ 1 ≤ n := by
  have e : sizeC (L : Nat) (k : Nat) = if L % k = 0 then ((L / k : Nat) : Int) else ((L / k + 1 : Nat) : Int) := by
    unfold sizeC
    rw [if_neg (by omega), Int.tdiv_eq_ediv_of_nonneg (by omega), Int.tmod_eq_emod_of_nonneg (by omega)]
    norm_cast
  have hd := Nat.div_add_mod L k
  have hm := Nat.mod_lt L (show 0 < k by omega)
  have hle : L / k ≤ 1024 := by
    have := Nat.div_le_div_right (c := k) hL
    rwa [Nat.mul_div_cancel_left _ (by omega)] at this
  by_cases h : L % k = 0
  · refine ⟨L / k, by rw [e, if_pos h], ?_, hle, ?_⟩
    · rw [Nat.mul_comm]; omega
    · rcases Nat.eq_zero_or_pos (L / k) with h1 | h1
      · rw [h1] at hd; omega
      · exact h1
  · refine ⟨L / k + 1, by rw [e, if_neg h], ?_, ?_, Nat.succ_le_succ (Nat.zero_le _)⟩
    · rw [Nat.add_mul, Nat.one_mul, Nat.mul_comm]; omega
    · rcases Nat.lt_or_ge (L / k) 1024 with h1 | h1
      · exact h1
      · have : L / k = 1024 := by omega
        rw [this] at hd
        omega
theorem cut_c (s : List UInt8) (k : Int) (hk : -9223372036854775808 ≤ k ∧ k ≤ 9223372036854775807) (w : World) :
    Calls Tryd.prog 7 #[Str s, .int .i64 k] w fun e w' => ∃ v, e = .returned (.tuple #[v, .int .i64 (cutE s k)]) ∧ SlAt 0 w' 9 v ((cutT s k).map Str) ∧ Below w.heap.size w w' := by
  by_cases h1 : k < 1 ∨ k > 32
  · have e1 : cutE s k = 1 := by unfold cutE; rw [if_pos h1]
    have e2 : cutT s k = [] := by unfold cutT; rw [e1]; rfl
    rw [e1, e2]
    clear e1 e2
    by_cases h2 : k < 1
    · refine Calls.mono (R := fun e w' => e = .returned (.tuple #[.slice none 0 0, .int .i64 1]) ∧ w' = w) ?_ (fun e w' h => ⟨_, h.1, SlAt.nil _ _ _, by rw [h.2]; exact Below.refl _ _⟩)
      clear h1
      go_enter Tryd.func7, Tryd.ntmps7
      go_wp2_with fail
      go_ret2
      exact ⟨rfl, rfl⟩
    · have h3 : (32 : Int) < k := by omega
      refine Calls.mono (R := fun e w' => e = .returned (.tuple #[.slice none 0 0, .int .i64 1]) ∧ w' = w) ?_ (fun e w' h => ⟨_, h.1, SlAt.nil _ _ _, by rw [h.2]; exact Below.refl _ _⟩)
      clear h1
      go_enter Tryd.func7, Tryd.ntmps7
      go_wp2_with fail
      go_ret2
      exact ⟨rfl, rfl⟩
  · obtain ⟨m, rfl⟩ : ∃ m : Nat, k = m := ⟨k.toNat, by omega⟩
    by_cases h2 : s = [] ∨ (s.length : Int) > (m : Int) * 1024
    · have e1 : cutE s m = 3 := by unfold cutE; rw [if_neg h1, if_pos h2]
      have e2 : cutT s m = [] := by unfold cutT; rw [e1]; rfl
      rw [e1, e2]
      clear e1 e2
      have g1 : ¬ (m : Int) < 1 := by omega
      have g2 : ¬ (32 : Int) < (m : Int) := by omega
      have g5 : wrap64 ((m : Int) * 1024) = (m : Int) * 1024 := IntWalk.wrap64_in _ (by omega)
      refine Calls.mono (R := fun e w' => e = .returned (.tuple #[.slice none 0 0, .int .i64 3]) ∧ w' = w) ?_ (fun e w' h => ⟨_, h.1, SlAt.nil _ _ _, by rw [h.2]; exact Below.refl _ _⟩)
      by_cases h3 : s = []
      · subst h3
        clear h1 h2
        go_enter Tryd.func7, Tryd.ntmps7
        go_wp2_with fail
        go_ret2
        exact ⟨rfl, rfl⟩
      · have h4 : s.isEmpty = false := by simpa using h3
        have h5 : (m : Int) * 1024 < (s.length : Int) := by
          rcases h2 with h2 | h2
          · exact absurd h2 h3
          · exact h2
        clear h1 h2 h3
        go_enter Tryd.func7, Tryd.ntmps7
        go_wp2_with fail
        go_ret2
        exact ⟨rfl, rfl⟩
    · have h3 : s ≠ [] := fun e => h2 (.inl e)
      have h4 : 0 < s.length := List.length_pos_iff.2 h3
      have h5 : s.length ≤ m * 1024 := by omega
      obtain ⟨n, hn, _, hn1, _⟩ := size_facts s.length m (by omega) (by omega) h4 h5
      have e1 : cutE s m = 0 := by unfold cutE; rw [if_neg h1, if_neg h2]
      have e2 : cutT s m = partsC s n m := by unfold cutT; rw [e1, if_pos rfl, hn]; rfl
      rw [e1, e2]
      exact cut_ok s m n (by omega) (by omega) h4 h5 hn (by omega) w
end Go.Proofs.YtibilabhokkhmaaDoor
