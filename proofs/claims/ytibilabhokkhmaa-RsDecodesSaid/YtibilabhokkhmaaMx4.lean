/-
  Tables of bytes: whether one may be, the identity, copies, whether one is not too great: the program's and the document's: contracts (chapter 3).
-/
import Derived.Test.YtibilabhokkhmaaMx3
namespace Go.Proofs.Ytibilabhokkhmaa
open Go.RowKit
set_option linter.unusedVariables false
set_option maxRecDepth 100000
set_option maxHeartbeats 1000000
def badZ (n : Int) : Bool := decide (n < 1) || decide (255 < n)
theorem badZ_lo {n : Int} (h : n < 1) : badZ n = true := by simp [badZ, h]
theorem badZ_hi {n : Int} (h : 255 < n) : badZ n = true := by simp [badZ, h]
theorem badZ_no {n : Int} (h1 : ¬ n < 1) (h2 : ¬ 255 < n) : badZ n = false := by simp [badZ, h1, h2]
theorem badZ_rng {n : Int} (h : badZ n = false) : 1 ≤ n ∧ n ≤ 255 := by
  simp [badZ] at h
  omega
theorem mbad_any (n : Int) (w : World) : Calls Try.prog 52 #[.int .i64 n] w fun e w' => e = .returned (.bool (badZ n)) ∧ w = w' := by
  by_cases h1 : n < 1
  · have H := Lib.hid (badZ_lo h1)
    go_enter Try.func52, Try.ntmps52
    go_wp2_with fail
    go_ret
    exact ⟨ret_bool H.out.symm, rfl⟩
  · by_cases h2 : 255 < n
    · have H := Lib.hid (badZ_hi h2)
      go_enter Try.func52, Try.ntmps52
      go_wp2_with fail
      go_ret
      exact ⟨ret_bool H.out.symm, rfl⟩
    · have H := Lib.hid (badZ_no h1 h2)
      go_enter Try.func52, Try.ntmps52
      go_wp2_with fail
      go_ret
      exact ⟨ret_bool H.out.symm, rfl⟩
def wid (rows : List (List Nat)) : Nat := (rows.headD []).length
def chkM (rows : List (List Nat)) : Int := if badZ rows.length = true ∨ badZ (wid rows) = true then 1 else if ∀ r ∈ rows, r.length = wid rows then 0 else 16
theorem chkM_bad {rows : List (List Nat)} (h : badZ rows.length = true ∨ badZ (wid rows) = true) : chkM rows = 1 := by unfold chkM; rw [if_pos h]
theorem chkM_no {rows : List (List Nat)} (h1 : badZ rows.length = false) (h2 : badZ (wid rows) = false) (h : ¬ ∀ r ∈ rows, r.length = wid rows) : chkM rows = 16 := by
  unfold chkM; rw [if_neg (by rw [h1, h2]; decide), if_neg h]
theorem chkM_ok {rows : List (List Nat)} (h1 : badZ rows.length = false) (h2 : badZ (wid rows) = false) (h : ∀ r ∈ rows, r.length = wid rows) : chkM rows = 0 := by
  unfold chkM; rw [if_neg (by rw [h1, h2]; decide), if_pos h]
theorem chkM_zero {rows : List (List Nat)} (h : chkM rows = 0) : (1 ≤ rows.length ∧ rows.length ≤ 255) ∧ (1 ≤ wid rows ∧ wid rows ≤ 255) ∧ ∀ r ∈ rows, r.length = wid rows := by
  unfold chkM at h
  split at h
  · cases h
  · rename_i h1
    split at h
    · rename_i h2
      have a := badZ_rng (n := rows.length) (by cases hh : badZ rows.length <;> simp_all)
      have b := badZ_rng (n := wid rows) (by cases hh : badZ (wid rows) <;> simp_all)
      exact ⟨by omega, by omega, h2⟩
    · cases h
theorem wid_eq {rows : List (List Nat)} (h : 0 < rows.length) : rows[0].length = wid rows := by
  cases rows with
  | nil => simp at h
  | cons r rs => rfl
theorem check_any (B : Nat) (v : Value) (rows : List (List Nat)) (w : World) (h : MatAt B w v rows) : Calls Try.prog 29 #[v] w fun e w' => e = .returned (.int .i64 (chkM rows)) ∧ w = w' := by
  obtain ⟨a, cap, rfl, hm, hc⟩ := h.at
  have HC := Lib.hid hc
  clear hc h
  cases hb1 : badZ rows.length with
  | true =>
    have H := Lib.hid (chkM_bad (.inl hb1))
    have HB := Lib.hid hb1
    clear hb1
    go_enter Try.func29, Try.ntmps29
    go_wp2_with fail
    refine (mbad_any _ _).mono ?_
    rw [HB.out]
    rintro x w1 ⟨rfl, rfl⟩
    go_wp2_with fail
    go_ret
    exact ⟨ret_int H.out.symm, rfl⟩
  | false =>
    have hr1 := badZ_rng hb1
    have hpos : 0 < rows.length := by omega
    obtain ⟨g, off, u0, rfl, hg, hc0, hr0⟩ := HC.out 0 hpos
    obtain ⟨a0, c0, rfl, -⟩ := hr0.at
    have hw := wid_eq hpos
    rw [hw] at hc0
    have hc0' : w.cell? ⟨g, off, none⟩ = some (.slice a0 (wid rows) c0) := hc0
    have HW := Lib.hid hw
    clear hw hr0 hc0
    cases hb2 : badZ (wid rows) with
    | true =>
      have H := Lib.hid (chkM_bad (rows := rows) (.inr hb2))
      have HB := Lib.hid hb1
      have HB2 := Lib.hid hb2
      clear hb1 hb2
      go_enter Try.func29, Try.ntmps29
      go_wp2_with fail
      refine (mbad_any _ _).mono ?_
      rw [HB.out]
      rintro x w1 ⟨rfl, rfl⟩
      go_wp2_with fail
      refine (mbad_any _ _).mono ?_
      rw [HB2.out]
      rintro x w1 ⟨rfl, rfl⟩
      go_wp2_with fail
      go_ret
      exact ⟨ret_int H.out.symm, rfl⟩
    | false =>
      have HB := Lib.hid hb1
      have HB2 := Lib.hid hb2
      have hr2 := badZ_rng hb2
      clear hb1 hb2
      go_enter Try.func29, Try.ntmps29
      go_wp2_with fail
      refine (mbad_any _ _).mono ?_
      rw [HB.out]
      rintro x w1 ⟨rfl, rfl⟩
      go_wp2_with fail
      refine (mbad_any _ _).mono ?_
      rw [HB2.out]
      rintro x w1 ⟨rfl, rfl⟩
      go_wp2_with fail
      go_loop [4, 17] (fun _ i => ∃ m : Nat, m ≤ rows.length ∧ i = .int .i64 m ∧ ∀ j (h : j < rows.length), j < m → rows[j].length = wid rows) (fun _ i => rows.length - (intOf i).toNat)
      case atStart => exact ⟨0, by omega, rfl, fun j _ h => absurd h (Nat.not_lt_zero _)⟩
      case round =>
        obtain ⟨m, hm', rfl, ha⟩ := hrel
        have HA := Lib.hid ha
        clear ha
        by_cases hlt : m < rows.length
        · obtain ⟨g', off', u, e, hg', hck, hrk⟩ := HC.out m hlt
          cases e
          obtain ⟨ak, ck, rfl, -⟩ := hrk.at
          by_cases he : rows[m].length = wid rows
          · have HN : Hid (∀ j (h : j < rows.length), j < m + 1 → rows[j].length = wid rows) := fun j hj hjm => by
              by_cases e : j = m
              · subst e; exact he
              · exact HA.out j hj (by omega)
            have hee : ((rows[m].length : Int) != (wid rows : Int)) = false := by simp [he]
            clear he hrk
            generalize rows[m].length = ln at *
            go_wp2_with fail
            go_round
            case rel => exact ⟨m + 1, by omega, by go_num, HN.out⟩
            case measure => simp [intOf]; omega
          · have H := Lib.hid (chkM_no HB.out HB2.out (fun h => he (h _ (by simp))))
            have hee : ((rows[m].length : Int) != (wid rows : Int)) = true := by simp; omega
            clear he hrk
            generalize rows[m].length = ln at *
            go_wp2_with fail
            go_ret
            exact ⟨ret_int H.out.symm, rfl⟩
        · obtain rfl : m = rows.length := by omega
          have H := Lib.hid (chkM_ok HB.out HB2.out (fun r hr => by
            obtain ⟨j, hj, rfl⟩ := List.mem_iff_getElem.1 hr
            exact HA.out j hj hj))
          go_wp2_with fail
          go_ret
          exact ⟨ret_int H.out.symm, rfl⟩
theorem rcheck_any (B : Nat) (v : Value) (rows : List (List Nat)) (w : World) (h : MatAt B w v rows) : Calls Try.prog 30 #[v] w fun e w' => e = .returned (.int .i64 (chkM rows)) ∧ Drawn w w' := by
  have h0 := h
  obtain ⟨a, cap, rfl, hm, hc⟩ := h.at
  have HC := Lib.hid hc
  clear hc h
  by_cases l1 : (rows.length : Int) < 1
  · have H := Lib.hid (chkM_bad (.inl (badZ_lo l1)))
    go_enter Try.func30, Try.ntmps30
    go_wp2_with fail
    go_ret
    exact ⟨ret_int H.out.symm, Drawn.refl _⟩
  · by_cases l2 : (255 : Int) < rows.length
    · have H := Lib.hid (chkM_bad (.inl (badZ_hi l2)))
      go_enter Try.func30, Try.ntmps30
      go_wp2_with fail
      go_ret
      exact ⟨ret_int H.out.symm, Drawn.refl _⟩
    · have hpos : 0 < rows.length := by omega
      obtain ⟨g, off, u0, rfl, hg, hc0, hr0⟩ := HC.out 0 hpos
      obtain ⟨a0, c0, rfl, -⟩ := hr0.at
      have hw := wid_eq hpos
      rw [hw] at hc0
      have hc0' : w.cell? ⟨g, off, none⟩ = some (.slice a0 (wid rows) c0) := hc0
      have HW := Lib.hid hw
      have HB := Lib.hid (badZ_no l1 l2)
      clear hw hr0 hc0
      by_cases l3 : (wid rows : Int) < 1
      · have H := Lib.hid (chkM_bad (rows := rows) (.inr (badZ_lo l3)))
        go_enter Try.func30, Try.ntmps30
        go_wp2_with fail
        go_ret
        exact ⟨ret_int H.out.symm, Drawn.refl _⟩
      · by_cases l4 : (255 : Int) < wid rows
        · have H := Lib.hid (chkM_bad (rows := rows) (.inr (badZ_hi l4)))
          go_enter Try.func30, Try.ntmps30
          go_wp2_with fail
          go_ret
          exact ⟨ret_int H.out.symm, Drawn.refl _⟩
        · have HB2 := Lib.hid (badZ_no l3 l4)
          go_enter Try.func30, Try.ntmps30
          go_wp2_with fail
          go_loopw [3] (fun i wr => ∃ m : Nat, m ≤ rows.length ∧ i = .int .i64 m ∧ (∀ j (h : j < rows.length), j < m → rows[j].length = wid rows) ∧ Drawn w wr) (fun i _ => rows.length - (intOf i).toNat)
          case atStart => exact ⟨0, by omega, rfl, fun j _ h => absurd h (Nat.not_lt_zero _), Drawn.refl _⟩
          case round =>
            obtain ⟨m, hm', rfl, ha, hd⟩ := hrel
            have HA := Lib.hid ha
            clear ha
            have hcz : wr.cell? ⟨g, off, none⟩ = some (.slice a0 (wid rows) c0) := (hd.below.cell (p := ⟨g, off, none⟩) hg).trans hc0'
            by_cases hlt : m < rows.length
            · obtain ⟨g', off', u, e, hg', hck, hrk⟩ := HC.out m hlt
              cases e
              obtain ⟨ak, ck, rfl, -⟩ := hrk.at
              replace hck := (hd.below.cell (p := ⟨g, off + m, none⟩) hg).trans hck
              by_cases he : rows[m].length = wid rows
              · have HN : Hid (∀ j (h : j < rows.length), j < m + 1 → rows[j].length = wid rows) := fun j hj hjm => by
                  by_cases e : j = m
                  · subst e; exact he
                  · exact HA.out j hj (by omega)
                have hee : ((rows[m].length : Int) != (wid rows : Int)) = false := by simp [he]
                clear he hrk hc0'
                generalize rows[m].length = ln at *
                go_wp2_with fail
                go_quiet (fail)
                go_wp2_with fail
                go_roundw
                case rel => exact ⟨m + 1, by omega, by go_num, HN.out, hd.trans (Drawn.of_drewN _ _)⟩
                case measure => simp [intOf]; omega
              · have H := Lib.hid (chkM_no HB.out HB2.out (fun h => he (h _ (by simp))))
                have hee : ((rows[m].length : Int) != (wid rows : Int)) = true := by simp; omega
                clear he hrk hc0'
                generalize rows[m].length = ln at *
                go_wp2_with fail
                go_quiet (fail)
                go_wp2_with fail
                go_ret
                exact ⟨ret_int H.out.symm, hd.trans (Drawn.of_drewN _ _)⟩
            · obtain rfl : m = rows.length := by omega
              have H := Lib.hid (chkM_ok HB.out HB2.out (fun r hr => by
                obtain ⟨j, hj, rfl⟩ := List.mem_iff_getElem.1 hr
                exact HA.out j hj hj))
              have hlt' : ¬ (rows.length : Int) < (rows.length : Int) := by omega
              go_wp2_with fail
              go_ret
              exact ⟨ret_int H.out.symm, hd⟩
end Go.Proofs.Ytibilabhokkhmaa
