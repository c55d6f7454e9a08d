/-
  Scripts: the example (chapter 33).
-/
import Derived.Test.YtdjjienklfbalaaScr7
import Derived.Test.YtdjjienklfbalaaScr4
namespace Go.Proofs.Ytdjjienklfbalaa
open Go.RowKit
set_option linter.unusedVariables false
set_option maxRecDepth 100000
set_option maxHeartbeats 1000000
theorem rows_one {w : World} {g : Nat} {a : Ac} (h : Blk w g a.vals.toArray 160) : IsRows 8 Ac.vals w (some ⟨g, 0, none⟩) 1 1 [a] := by
  refine ⟨rfl, by omega, by unfold maxLen; omega, .inr ⟨g, 0, rfl, h.lt, fun i hi j hj => ?_⟩⟩
  obtain rfl : i = 0 := by simp at hi; omega
  have := h.facts.1 (0 + 0 * 8 + j)
  rw [this]
  simp
theorem IsRows.chain' {w w' : World} {a : Option Addr} {len cap : Nat} {ds : List Ac} (h : IsRows 8 Ac.vals w a len cap ds) (hb : Below w.heap.size w w') : IsRows 8 Ac.vals w' a len cap ds := h.below hb
def FewP (w : World) (e : Ending) (w' : World) : Prop := (∃ z, e = .returned (.bool z)) ∧ Below w.heap.size w w'
theorem few_s (a : Option Addr) (len cap : Nat) (ds : List Ac) (w : World) (hz : IsRows 8 Ac.vals w a len cap ds) :
    Calls Try.prog 36 #[.slice a len cap] w (FewP w) := by
  obtain ⟨la1, la2⟩ := rows_len hz
  have HZ := Lib.hid hz
  clear hz
  by_cases hm : 1100 < len
  · go_enter Try.func36, Try.ntmps36
    go_wp2_with fail
    go_ret
    exact ⟨⟨_, rfl⟩, Below.refl _ _⟩
  · have hd : decide (1100 < (len : Int)) = false := by simp; omega
    go_enter Try.func36, Try.ntmps36
    go_wp2_with fail
    go_loopg [3] len (fun gk i wr => ∃ k : Nat, k ≤ len ∧ len ≤ k + gk ∧ i = .int .i64 k ∧ w = wr)
    case atStart => exact ⟨0, by omega, by omega, rfl, rfl⟩
    case round =>
      obtain ⟨k, hk, hgk, rfl, rfl⟩ := hrel
      by_cases hlt : k < len
      · obtain ⟨g, off, rfl, hg, hc⟩ := rows_at HZ.out k hlt
        generalize ds[k]'(by rw [HZ.out.1]; exact hlt) = x at *
        obtain ⟨x0, x1, x2, x3, x4, x5, x6, x7⟩ := x
        have c5 : w.cell? ⟨g, off + k * 8 + 5, none⟩ = some (Str x5) := hc 5 (by omega)
        have c7 : w.cell? ⟨g, off + k * 8 + 7, none⟩ = some (Str x7) := hc 7 (by omega)
        clear hc
        have hlti : (k : Int) < (len : Int) := by omega
        by_cases h7 : 2100 < x7.length
        · have d7 : decide (2100 < (x7.length : Int)) = true := by simp; omega
          clear h7
          go_wp2_with fail
          go_ret
          exact ⟨⟨_, rfl⟩, Below.refl _ _⟩
        · have d7 : decide (2100 < (x7.length : Int)) = false := by simp; omega
          clear h7
          by_cases h5 : 2100 < x5.length
          · have d5 : decide (2100 < (x5.length : Int)) = true := by simp; omega
            clear h5
            go_wp2_with fail
            go_ret
            exact ⟨⟨_, rfl⟩, Below.refl _ _⟩
          · have d5 : decide (2100 < (x5.length : Int)) = false := by simp; omega
            clear h5
            go_wp2_with fail
            go_roundg (len - (k + 1))
            case measure => omega
            case rel => exact ⟨k + 1, by omega, by omega, by go_num, rfl⟩
      · obtain rfl : k = len := by omega
        have hnlt : ¬ (k : Int) < (k : Int) := by omega
        go_wp2_with fail
        go_ret
        exact ⟨⟨_, rfl⟩, Below.refl _ _⟩
def a11 : Ac := ⟨11, 0, 0, 0, 0, [], 5, []⟩
def a12 : Ac := ⟨12, 0, 0, 0, 0, [], 0, []⟩
theorem p11 : putAS [a11] = [11, 0, 0, 0, 0, 5] ∧ putAE [a11] = 0 := by decide +kernel
theorem p12 : putAE [a12] = 1 ∧ putAS [a12] = [] := by decide +kernel
theorem r11 : readR [11, 0, 0, 0, 0, 5] = 0 ∧ readS [11, 0, 0, 0, 0, 5] = [a11] := by decide +kernel
theorem r11x : readR [11, 0, 0, 0, 0, 5, 120] = 5 ∧ readS [11, 0, 0, 0, 0, 5, 120] = [] := by decide +kernel
theorem awake33 (w : World) : Calls Try.prog 37 #[] w fun e w' => e = .returned (.bool true) ∧ Below w.heap.size w w' := by
  have HP1 : Hid (∀ g w, Blk w g #[.int .i64 11, .int .i64 0, .int .i64 0, .int .i64 0, .int .i64 0, .string ⟨#[]⟩, .int .i64 5, .string ⟨#[]⟩] 160 → Calls Try.prog 38 #[.slice (some ⟨g, 0, none⟩) 1 1] w (RetB (.tuple #[.string ⟨#[11, 0, 0, 0, 0, 5]⟩, .int .i64 0]) w)) := Lib.hid (fun g w h => by
    have h1 := put_few _ 1 1 [a11] w (rows_one (a := a11) h) (by decide)
    rw [p11.1, p11.2] at h1
    exact h1)
  have HP2 : Hid (∀ g w, Blk w g #[.int .i64 12, .int .i64 0, .int .i64 0, .int .i64 0, .int .i64 0, .string ⟨#[]⟩, .int .i64 0, .string ⟨#[]⟩] 160 → Calls Try.prog 38 #[.slice (some ⟨g, 0, none⟩) 1 1] w (RetB (.tuple #[.string ⟨#[]⟩, .int .i64 1]) w)) := Lib.hid (fun g w h => by
    have h1 := put_few _ 1 1 [a12] w (rows_one (a := a12) h) (by decide)
    rw [p12.1, p12.2] at h1
    exact h1)
  have HR1 : Hid (∀ w, Calls Try.prog 40 #[.string ⟨#[11, 0, 0, 0, 0, 5]⟩] w fun e w' => ∃ a cap, e = .returned (.tuple #[.slice a 1 cap, .int .i64 0]) ∧ Below w.heap.size w w' ∧ IsRows 8 Ac.vals w' a 1 cap [a11]) := Lib.hid (fun w => by
    refine (read_s [11, 0, 0, 0, 0, 5] (by decide) w).mono ?_
    rintro e w' ⟨v, h1, h2, h3⟩
    rw [r11.1] at h1
    rw [r11.2] at h3
    obtain ⟨a, cap, rfl⟩ := h3.form
    exact ⟨a, cap, h1, h2, IsRows.of_seg (l := [a11]) h3⟩)
  have HR2 : Hid (∀ w, Calls Try.prog 40 #[.string ⟨#[11, 0, 0, 0, 0, 5, 120]⟩] w fun e w' => ∃ v, e = .returned (.tuple #[v, .int .i64 5]) ∧ Below w.heap.size w w') := Lib.hid (fun w => by
    refine (read_s [11, 0, 0, 0, 0, 5, 120] (by decide) w).mono ?_
    rintro e w' ⟨v, h1, h2, h3⟩
    rw [r11x.1] at h1
    exact ⟨v, h1, h2⟩)
  go_enter Try.func37, Try.ntmps37
  go_wp2_with fail
  refine (HP1.out _ _ (Blk.new w _ _)).mono ?_
  rintro e w1 ⟨rfl, hb⟩
  have hB := Below.chain hb (Below.chainAlloc (Below.refl _ _) _)
  clear hb
  go_wp2_with fail
  refine (HR1.out _).mono ?_
  rintro e w2 ⟨a, cap, rfl, hb, hrow⟩
  have hB := Below.chain hb hB
  clear hb
  go_wp2_with fail
  refine (HR2.out _).mono ?_
  rintro e w3 ⟨v, rfl, hb⟩
  have hB := Below.chain hb hB
  have hrow := hrow.below hb
  clear hb
  go_wp2_with fail
  refine (HP2.out _ _ (Blk.new w3 _ _)).mono ?_
  rintro e w4 ⟨rfl, hb⟩
  have hB := Below.chain hb (Below.chainAlloc hB _)
  have hrow := (hrow.below (Below.chainAlloc (Below.refl w3.heap.size w3) _)).below hb
  clear hb
  go_wp2_with fail
  refine (same_s _ _ _ _ _ _ [a11] [a11] _ (hrow.below (Below.chainAlloc (Below.refl w4.heap.size w4) _)) (rows_one (a := a11) (Blk.new w4 _ _))).mono ?_
  rintro e w5 ⟨rfl, hb⟩
  have hB := Below.chain hb (Below.chainAlloc hB _)
  clear hb
  simp only [decide_true]
  go_wp2_with fail
  go_ret
  exact ⟨rfl, hB⟩
end Go.Proofs.Ytdjjienklfbalaa
