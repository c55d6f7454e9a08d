/-
  Whether two lists of texts are the same; texts that came in.
-/
import Derived.Test.YtgfbhclkpephnaaMat
import Derived.Test.YtgfbhclkpephnaaFlat
namespace Go.Proofs.Ytgfbhclkpephnaa
open Go.RowKit
set_option linter.unusedVariables false
set_option maxRecDepth 100000
set_option maxHeartbeats 1000000
theorem infoStr : (Try.prog.info? 9).map (fun i => (i.zero, i.size, i.bytes)) = some (some (Str []), 1, 16) := by kernel_rfl
theorem app_c (x y : List UInt8) : (⟨x.toArray⟩ ++ ⟨y.toArray⟩ : ByteArray) = ⟨(x ++ y).toArray⟩ := ByteArray.mk_append_mk x y
theorem take_ne_t {α : Type} {xs ys : List α} {k : Nat} (h1 : k < xs.length) (h2 : k < ys.length) (h : xs[k] ≠ ys[k]) : xs ≠ ys := fun e => h (by subst e; rfl)
theorem take_succ_t {α : Type} {xs ys : List α} {k : Nat} (h1 : k < xs.length) (h2 : k < ys.length) (h : xs[k] = ys[k]) (ht : xs.take k = ys.take k) : xs.take (k + 1) = ys.take (k + 1) := by
  rw [List.take_succ_eq_append_getElem h1, List.take_succ_eq_append_getElem h2, h, ht]
def textsB (xs ys : List (List UInt8)) : Bool := decide (xs = ys)
theorem strs_at {B : Nat} {w : World} {v : Value} {xs : List (List UInt8)} (h : SlAt B w 9 v (xs.map Str)) : ∃ a cap, v = .slice a xs.length cap ∧ xs.length ≤ 9223372036854775807 ∧ ∀ k (hk : k < xs.length), ∃ g off, a = some ⟨g, off, none⟩ ∧ g < w.heap.size ∧ w.cell? ⟨g, off + k, none⟩ = some (Str xs[k]) := by
  have hm := h.max
  obtain ⟨a, cap, hv, hat⟩ := h.at
  rw [List.length_map] at hv hm
  refine ⟨a, cap, hv, hm, fun k hk => ?_⟩
  obtain ⟨g, off, ha, hg, hc⟩ := hat k (by rw [List.length_map]; exact hk)
  exact ⟨g, off, ha, hg, by simpa using hc⟩
theorem texts_c {B1 B2 : Nat} {va vb : Value} {xs ys : List (List UInt8)} (w : World) (ha : SlAt B1 w 9 va (xs.map Str)) (hb : SlAt B2 w 9 vb (ys.map Str)) :
    Calls Try.prog 35 #[va, vb] w fun e w' => e = .returned (.bool (textsB xs ys)) ∧ Drawn w w' := by
  have ha0 := ha
  have hb0 := hb
  obtain ⟨aa, ca, rfl, hma, hca⟩ := strs_at ha
  obtain ⟨ab, cb, rfl, hmb, hcb⟩ := strs_at hb
  by_cases hlen : xs.length = ys.length
  · have hl : ((xs.length : Int) != (ys.length : Int)) = false := by simp [hlen]
    have HL := Lib.hid hlen
    clear hlen hca hcb
    go_enter Try.func35, Try.ntmps35
    go_wp2_with fail
    clear hl
    go_loopw [5] (fun i wr => ∃ k : Nat, k ≤ xs.length ∧ i = .int .i64 k ∧ xs.take k = ys.take k ∧ Drawn w wr) (fun i _ => xs.length - (intOf i).toNat)
    case atStart => exact ⟨0, by omega, rfl, rfl, Drawn.refl _⟩
    case round =>
      obtain ⟨k, hk, rfl, ht, hd⟩ := hrel
      have HT := Lib.hid ht
      clear ht
      by_cases hlt : k < xs.length
      · have hlt2 : k < ys.length := by rw [← HL.out]; exact hlt
        obtain ⟨_, _, e, _, h1⟩ := strs_at (ha0.chain hd.below)
        cases e
        obtain ⟨_, _, e, _, h2⟩ := strs_at (hb0.chain hd.below)
        cases e
        obtain ⟨g1, o1, rfl, hg1, c1⟩ := h1 k hlt
        obtain ⟨g2, o2, rfl, hg2, c2⟩ := h2 k hlt2
        clear h1 h2
        by_cases he : xs[k] = ys[k]
        · have HS := Lib.hid (take_succ_t hlt hlt2 he HT.out)
          rw [he] at c1
          clear he
          generalize ys[k] = x at *
          go_wp2_with fail
          go_quiet (fail)
          go_wp2_with fail
          go_roundw
          case rel => exact ⟨k + 1, by omega, by go_num, HS.out, hd.trans (Drawn.of_drewN _ _)⟩
          case measure => simp [intOf]; omega
        · have hne : textsB xs ys = false := by
            unfold textsB
            exact decide_eq_false (take_ne_t hlt hlt2 he)
          have HN := Lib.hid hne
          clear hne
          generalize xs[k] = x at *
          generalize ys[k] = y at *
          have hxy : (x == y) = false := by simpa using he
          go_wp2_with fail
          go_quiet (fail)
          go_wp2_with fail
          go_ret
          exact ⟨by rw [HN.out]; rfl, hd.trans (Drawn.of_drewN _ _)⟩
      · have hy : textsB xs ys = true := by
          unfold textsB
          refine decide_eq_true ?_
          have := HT.out
          rwa [List.take_of_length_le (by omega), List.take_of_length_le (by have := HL.out; omega)] at this
        have HY := Lib.hid hy
        have hlt' : ¬ (k : Int) < (xs.length : Int) := by omega
        clear hy
        go_wp2_with fail
        go_ret
        exact ⟨by rw [HY.out]; rfl, hd⟩
  · have hne : textsB xs ys = false := by
      unfold textsB
      exact decide_eq_false (fun e => hlen (by rw [e]))
    have HN := Lib.hid hne
    have hl : ((xs.length : Int) != (ys.length : Int)) = true := by simp; omega
    clear hne hlen
    go_enter Try.func35, Try.ntmps35
    go_wp2_with fail
    go_ret
    exact ⟨by rw [HN.out]; rfl, Drawn.refl _⟩
/-- Texts that came in. -/
theorem open_strs {H : Type} {enc : TypeId × Value → H} {W : World} {b : Nat} {sp : Nat → Bool} {hd : Bool} {a : Option Addr} {len cap : Nat} {d : DataW H} {p : List MemPlace}
    (h : DataW.Trod enc Try.prog W b sp hd 68 (.slice a len cap) d p) : ∃ ts : List (List UInt8), len = ts.length ∧ SlAt W.heap.size W 9 (.slice a len cap) (ts.map Str) ∧ ∀ t ∈ ts, t.length ≤ 9223372036854775807 := by
  obtain ⟨ts, ⟨h1, h2, h3, h4⟩, hg⟩ := open_rows (P := Try.prog) 1 (fun t : List UInt8 => [Str t]) (fun t => t.length ≤ 9223372036854775807) Try.underlying68 (by kernel_rfl) (by decide) h (fun cs m x hx => by
    obtain ⟨z, rfl, _, hl⟩ := DataW.trod_string Try.underlying9 hx
    obtain ⟨l, rfl⟩ := str_list z
    exact ⟨l, rfl, str_len hl⟩)
  refine ⟨ts, h1.symm, ⟨a, cap, by rw [List.length_map, h1], by rw [List.length_map, h1]; exact h2, h3, ?_⟩, hg⟩
  rcases h4 with h4 | ⟨g, off, ha, hlt, hc⟩
  · left
    rw [List.map_eq_nil_iff]
    exact List.eq_nil_of_length_eq_zero (by omega)
  · right
    refine ⟨g, off, ha, hlt, .inl hlt, fun j hj => ?_⟩
    have := hc j (by simpa using hj) 0 (by decide)
    rw [Nat.mul_one, Nat.add_zero] at this
    rw [this]
    simp
end Go.Proofs.Ytgfbhclkpephnaa
