/-
  The table: slices.BinarySearchFunc over shards (chapter 18).
-/
import Derived.Test.YtnommofekjiiaaaTa1
namespace Go.Proofs.Ytnommofekjiiaaa
open Go Go.RowKit
set_option linter.unusedVariables false
set_option linter.unusedSimpArgs false
set_option maxRecDepth 100000
set_option maxHeartbeats 1000000
theorem half (lo hi : Nat) (h : lo < hi) : lo ≤ (lo + hi) / 2 ∧ (lo + hi) / 2 < hi := by omega
theorem bs_low {t : Int} {l : List Sh} (hr : Rise l) {lo : Nat} (h1 : ∀ j y, j < lo → l[j]? = some y → y.1 < t) {m : Nat} {y : Sh} (hm : l[m]? = some y) (hy : y.1 < t) : ∀ j z, j < m + 1 → l[j]? = some z → z.1 < t := fun j z hj hz => by
  by_cases e : j = m
  · subst e
    rw [hm] at hz
    cases hz
    exact hy
  · have := hr.lt hz hm (by omega)
    omega
theorem bs_high {t : Int} {l : List Sh} (hr : Rise l) {m : Nat} {y : Sh} (hm : l[m]? = some y) (hy : ¬ y.1 < t) : ∀ j z, m ≤ j → l[j]? = some z → ¬ z.1 < t := fun j z hj hz => by
  by_cases e : j = m
  · subst e
    rw [hm] at hz
    cases hz
    exact hy
  · have := hr.lt hm hz (by omega)
    omega
theorem cmpI_neg {x t : Int} (h : x < t) : cmpI x t = -1 := by simp [cmpI, h]
theorem cmpI_pos {x t : Int} (h : ¬ x < t) : ¬ cmpI x t < 0 := by unfold cmpI; rw [if_neg h]; split <;> omega
theorem cmpI_zero {x t : Int} : cmpI x t = 0 ↔ x = t := by
  unfold cmpI
  by_cases h1 : x < t
  · simp [h1]; omega
  · by_cases h2 : t < x
    · simp [h1, h2]; omega
    · simp [h1, h2]; omega
theorem bs_hit {t : Int} {l : List Sh} {lo : Nat} (hl : lo ≤ l.length) (h1 : ∀ j y, j < lo → l[j]? = some y → y.1 < t) (h2 : ∀ j y, lo ≤ j → l[j]? = some y → ¬ y.1 < t) : lowN t l = lo := lowN_eq t l lo hl h1 (fun y hy => h2 lo y (Nat.le_refl _) hy)
theorem bsearch (base : Nat) (v : Value) (l : List Sh) (t : Int) (w : World) (hs : ShS w base v l) (hr : Rise l) (hlen : l.length ≤ 1000) :
    Calls Try.prog 46 #[v, .int .i64 t, .func (.func 47) #[] #[]] w fun e w' => e = .returned (.tuple #[.int .i64 (lowN t l : Nat), .bool (hitN t l)]) ∧ Below w.heap.size w w' := by
  have HS := Lib.hid hs
  have HR := Lib.hid hr
  have HL := Lib.hid hlen
  have HFIN : Hid (∀ lo, lo ≤ l.length → (∀ j y, j < lo → l[j]? = some y → y.1 < t) → (∀ j y, lo ≤ j → l[j]? = some y → ¬ y.1 < t) → lowN t l = lo) := Lib.hid fun lo a b c => bs_hit a b c
  obtain ⟨a, cap, rfl⟩ := hs.form
  obtain ⟨n, hn⟩ : ∃ n, n = l.length := ⟨_, rfl⟩
  have HN := Lib.hid hn
  have hL0 : n ≤ 1000 := by omega
  rw [← hn] at HFIN ⊢
  clear hs hr hlen hn
  go_enter Try.func46, Try.ntmps46
  go_wp2_with fail
  go_loopg [9, 10] n (fun kx s9 s10 wr => ∃ lo hi : Nat, s9 = .int .i64 lo ∧ s10 = .int .i64 hi ∧ lo ≤ hi ∧ hi ≤ n ∧ hi - lo ≤ kx ∧ Hid (Below w.heap.size w wr) ∧
    Hid ((∀ j y, j < lo → l[j]? = some y → y.1 < t) ∧ (∀ j y, hi ≤ j → l[j]? = some y → ¬ y.1 < t)))
  case atStart => exact ⟨0, n, rfl, rfl, Nat.zero_le _, Nat.le_refl _, by omega, Lib.hid (Below.refl _ _), Lib.hid ⟨fun j y hj => absurd hj (Nat.not_lt_zero _), fun j y hj hy => by have := (List.getElem?_eq_some_iff.1 hy).1; rw [HN.out] at hj; omega⟩⟩
  case round =>
    obtain ⟨lo, hi, rfl, rfl, hlh, hin, hg, HB, HI⟩ := hrel
    by_cases hlt : lo < hi
    · have hmid := half lo hi hlt
      obtain ⟨y, hy⟩ : ∃ y, l[(lo + hi) / 2]? = some y := ⟨_, List.getElem?_eq_getElem (by rw [← HN.out]; omega)⟩
      obtain ⟨g, off, _, e, _, hgw, _⟩ := HS.out.shape (by rw [← HN.out]; omega)
      cases e
      obtain ⟨c0, c1⟩ := ShS.cell (HS.out.chain HB.out) _ y hy
      have HY := Lib.hid hy
      have HC := Lib.hid (fun w' => judge1_any y t w')
      have HM : Hid (lo ≤ (lo + hi) / 2 ∧ (lo + hi) / 2 < hi ∧ hi ≤ n) := Lib.hid ⟨hmid.1, hmid.2, hin⟩
      have e1 : IntKind.i64.wrap ((lo : Int) + (hi : Int)) = (lo : Int) + (hi : Int) := by rw [IntKind.wrap_i64]; omega
      clear hy hgw
      by_cases hyt : y.1 < t
      · have h0 := cmpI_neg hyt
        have HT := Lib.hid (bs_low HR.out HI.out.1 HY.out hyt)
        go_wp2_with fail
        refine (HC.out wr).mono ?_
        rintro e w1 ⟨rfl, hb1⟩
        have HB1 := Lib.hid (Below.chain hb1 HB.out)
        clear hb1 c0 c1
        go_wp2_with fail
        go_roundg (hi - ((lo + hi) / 2 + 1))
        case measure => omega
        case rel => exact ⟨(lo + hi) / 2 + 1, hi, by rw [show ((lo : Int) + (hi : Int)) / 2 + 1 = (((lo + hi) / 2 + 1 : Nat) : Int) by omega], rfl, by omega, hin, Nat.le_refl _, HB1, Lib.hid ⟨HT.out, HI.out.2⟩⟩
      · have h0 := cmpI_pos hyt
        have HT := Lib.hid (bs_high HR.out HY.out hyt)
        generalize cmpI y.1 t = cv at h0 HC
        go_wp2_with fail
        refine (HC.out wr).mono ?_
        rintro e w1 ⟨rfl, hb1⟩
        have HB1 := Lib.hid (Below.chain hb1 HB.out)
        clear hb1 c0 c1
        go_wp2_with fail
        go_roundg ((lo + hi) / 2 - lo)
        case measure => omega
        case rel => exact ⟨lo, (lo + hi) / 2, rfl, by rw [show ((lo : Int) + (hi : Int)) / 2 = (((lo + hi) / 2 : Nat) : Int) by omega], by omega, by omega, Nat.le_refl _, HB1, Lib.hid ⟨HI.out.1, HT.out⟩⟩
    · obtain rfl : hi = lo := by omega
      have elo := HFIN.out hi hin HI.out.1 (fun j y a b => by have := HI.out.2 j y a b; omega)
      have HE := Lib.hid elo
      clear elo hlt hlh
      by_cases hnl : hi < n
      · obtain ⟨y, hy⟩ : ∃ y, l[hi]? = some y := ⟨_, List.getElem?_eq_getElem (by rw [← HN.out]; omega)⟩
        obtain ⟨g, off, _, e, _, hgw, _⟩ := HS.out.shape (by rw [← HN.out]; omega)
        cases e
        obtain ⟨c0, c1⟩ := ShS.cell (HS.out.chain HB.out) _ y hy
        have hhit : hitN t l = decide (y.1 = t) := by unfold hitN; rw [HE.out, hy]
        have HH := Lib.hid hhit
        have HC := Lib.hid (fun w' => judge1_any y t w')
        have hlt' : (hi : Int) < (n : Int) := by omega
        clear hy hgw hhit
        by_cases hyt : y.1 = t
        · have h0 : cmpI y.1 t = 0 := cmpI_zero.2 hyt
          rw [h0] at HC
          have HYT := Lib.hid hyt
          clear hyt
          go_wp2_with fail
          refine (HC.out wr).mono ?_
          rintro e w1 ⟨rfl, hb1⟩
          have HB1 := Lib.hid (Below.chain hb1 HB.out)
          clear hb1 c0 c1
          go_wp2_with fail
          go_ret2
          exact ⟨by rw [HE.out, HH.out]; simp [HYT.out], HB1.out⟩
        · have h0 : ¬ cmpI y.1 t = 0 := fun h => hyt (cmpI_zero.1 h)
          generalize cmpI y.1 t = cv at h0 HC
          go_wp2_with fail
          refine (HC.out wr).mono ?_
          rintro e w1 ⟨rfl, hb1⟩
          have HB1 := Lib.hid (Below.chain hb1 HB.out)
          clear hb1 c0 c1
          go_wp2_with fail
          go_ret2
          exact ⟨by rw [HE.out, HH.out]; simp [hyt, h0], HB1.out⟩
      · have hlt' : ¬ (hi : Int) < (n : Int) := by omega
        have hhit : hitN t l = false := by
          unfold hitN
          rw [HE.out, List.getElem?_eq_none (by rw [← HN.out]; omega)]
        have HH := Lib.hid hhit
        clear hhit
        go_wp2_with fail
        go_ret2
        exact ⟨by rw [HE.out, HH.out]; rfl, HB.out⟩
end Go.Proofs.Ytnommofekjiiaaa
