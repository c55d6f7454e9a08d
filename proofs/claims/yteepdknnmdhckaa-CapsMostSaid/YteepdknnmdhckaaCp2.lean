/-
  How much there may be: Most, Within; arrays of ints compared (chapter 37).
-/
import Derived.Test.YteepdknnmdhckaaCp1
import Derived.Laws.StructEq
namespace Go.Proofs.Yteepdknnmdhckaa
open Go Go.RowKit
set_option linter.unusedVariables false
set_option linter.unusedSimpArgs false
set_option maxRecDepth 100000
set_option maxHeartbeats 2000000
def mostF (k r s wi bu q qu t wo ws ti : Int) : Nat → Int := fun i =>
  if chkB k r s wi bu q qu t wo ws ti then (match i with | 0 => t | 1 => wo + 256 * wi | 2 => bu + wi * blockV k s | 3 => q + wi * blockV k s | 4 => 256 * (wi + 3) | 5 => 256 | _ => 0) else 0
abbrev sixA (f : Nat → Int) : Array Value := #[.int .i64 (f 0), .int .i64 (f 1), .int .i64 (f 2), .int .i64 (f 3), .int .i64 (f 4), .int .i64 (f 5)]
theorem six_at (f : Nat → Int) (i : Nat) (h : i < 6) : (sixA f)[i]? = some (.int .i64 (f i)) := by
  match i, h with
  | 0, _ => rfl
  | 1, _ => rfl
  | 2, _ => rfl
  | 3, _ => rfl
  | 4, _ => rfl
  | 5, _ => rfl
structure CfOk (wi bu q t wo bl : Int) : Prop where
  wi : 1 ≤ wi ∧ wi ≤ 64
  bu : bu ≤ 1048576 ∧ bl ≤ bu
  q : q ≤ 1048576 ∧ bl ≤ q
  wo : 1 ≤ wo ∧ wo ≤ 4096
  bl : 0 ≤ bl ∧ bl ≤ 32768
theorem cf_ok {k r s wi bu q qu t wo ws ti : Int} (h : chkB k r s wi bu q qu t wo ws ti = true) : CfOk wi bu q t wo (blockV k s) := by
  have hb := blockV_range k s
  unfold chkB ckA ckB ckC ckD at h
  simp only [Bool.and_eq_true, inB_iff] at h
  obtain ⟨⟨⟨⟨⟨_, _⟩, _, h1⟩, h2, h3⟩, h4, h5⟩, h6⟩ := h
  generalize blockV k s = bl at *
  exact ⟨h1, ⟨h2.2, h2.1⟩, ⟨h3.2, h3.1⟩, h5, hb⟩
theorem cf_mul {wi bu q t wo bl : Int} (h : CfOk wi bu q t wo bl) : 0 ≤ wi * bl ∧ wi * bl ≤ 2097152 := by
  have h1 := Int.mul_le_mul h.wi.2 h.bl.2 h.bl.1 (by decide)
  have h2 := Int.mul_nonneg (show (0 : Int) ≤ wi by have := h.wi; omega) h.bl.1
  omega
theorem most_no (k r s wi bu q qu t wo ws ti : Int) (w : World) (h : chkB k r s wi bu q qu t wo ws ti = false) : Calls Try.prog 6 #[.agg #[.int .i64 k, .int .i64 r, .int .i64 s, .int .i64 wi, .int .i64 bu, .int .i64 q, .int .i64 qu, .int .i64 t, .int .i64 wo, .int .i64 ws, .int .i64 ti]] w fun e w' => e = .returned (.agg (sixA (mostF k r s wi bu q qu t wo ws ti))) ∧ Below w.heap.size w w' := by
  have hv : chkV k r s wi bu q qu t wo ws ti = 2 := by unfold chkV; rw [h]; rfl
  have HM : Hid (∀ i, mostF k r s wi bu q qu t wo ws ti i = 0) := Lib.hid fun i => by unfold mostF; rw [h]; rfl
  have HC := Lib.hid (fun w' => check_any k r s wi bu q qu t wo ws ti w')
  rw [hv] at HC
  have HB := Lib.hid (Below.chainAlloc (Below.chainAlloc (Below.refl _ w) (.cells #[.int .i64 k, .int .i64 r, .int .i64 s, .int .i64 wi, .int .i64 bu, .int .i64 q, .int .i64 qu, .int .i64 t, .int .i64 wo, .int .i64 ws, .int .i64 ti] 23)) (.cells #[.int .i64 0, .int .i64 0, .int .i64 0, .int .i64 0, .int .i64 0, .int .i64 0] 24))
  have HZ := Lib.hid (Blk.newAt (cs := #[.int .i64 0, .int .i64 0, .int .i64 0, .int .i64 0, .int .i64 0, .int .i64 0]) (t := 24) (size_alloc w (.cells #[.int .i64 k, .int .i64 r, .int .i64 s, .int .i64 wi, .int .i64 bu, .int .i64 q, .int .i64 qu, .int .i64 t, .int .i64 wo, .int .i64 ws, .int .i64 ti] 23)).symm)
  clear h hv
  unfold sixA
  simp only [HM.out]
  go_enter Try.func6, Try.ntmps6
  go_wp2_with fail
  generalize (w.alloc (.cells #[.int .i64 k, .int .i64 r, .int .i64 s, .int .i64 wi, .int .i64 bu, .int .i64 q, .int .i64 qu, .int .i64 t, .int .i64 wo, .int .i64 ws, .int .i64 ti] 23)).alloc (.cells #[.int .i64 0, .int .i64 0, .int .i64 0, .int .i64 0, .int .i64 0, .int .i64 0] 24) = W0 at *
  obtain ⟨b, hb⟩ : ∃ b, w.heap.size = b := ⟨_, rfl⟩
  rw [hb] at HB HZ ⊢
  refine (HC.out W0).mono ?_
  rintro e w1 ⟨rfl, hb1⟩
  have kz := HZ.out.below hb1 HZ.out.lt
  have z0 := kz.facts.1 0
  have fz0 := kz.facts.2.1 0
  have z1 := kz.facts.1 1
  have fz1 := kz.facts.2.1 1
  have z2 := kz.facts.1 2
  have fz2 := kz.facts.2.1 2
  have z3 := kz.facts.1 3
  have fz3 := kz.facts.2.1 3
  have z4 := kz.facts.1 4
  have fz4 := kz.facts.2.1 4
  have z5 := kz.facts.1 5
  have fz5 := kz.facts.2.1 5
  have HB1 : Hid (Below b w w1) := Lib.hid (by have := Below.chain hb1 (by rw [hb]; exact HB.out); rw [hb] at this; exact this)
  clear kz hb1
  go_wp2_with fail
  exact bodyPost_ret (v := .agg #[.int .i64 0, .int .i64 0, .int .i64 0, .int .i64 0, .int .i64 0, .int .i64 0]) (by simp [results, Try.results6, go_sem, z0, z1, z2, z3, z4, z5]) rfl ⟨rfl, by rw [hb]; exact ((((((HB1.out.setCell (show b ≤ b + 1 by omega) _).setCell (show b ≤ b + 1 by omega) _).setCell (show b ≤ b + 1 by omega) _).setCell (show b ≤ b + 1 by omega) _).setCell (show b ≤ b + 1 by omega) _).setCell (show b ≤ b + 1 by omega) _)⟩
theorem most_yes (k r s wi bu q qu t wo ws ti : Int) (w : World) (h : chkB k r s wi bu q qu t wo ws ti = true) : Calls Try.prog 6 #[.agg #[.int .i64 k, .int .i64 r, .int .i64 s, .int .i64 wi, .int .i64 bu, .int .i64 q, .int .i64 qu, .int .i64 t, .int .i64 wo, .int .i64 ws, .int .i64 ti]] w fun e w' => e = .returned (.agg (sixA (mostF k r s wi bu q qu t wo ws ti))) ∧ Below w.heap.size w w' := by
  have hv : chkV k r s wi bu q qu t wo ws ti = 0 := by unfold chkV; rw [h]; rfl
  have hm : sixA (mostF k r s wi bu q qu t wo ws ti) = #[.int .i64 t, .int .i64 (wo + 256 * wi), .int .i64 (bu + wi * blockV k s), .int .i64 (q + wi * blockV k s), .int .i64 (256 * (wi + 3)), .int .i64 256] := by unfold sixA mostF; rw [h]; rfl
  rw [hm]
  clear hm
  have HC := Lib.hid (fun w' => check_any k r s wi bu q qu t wo ws ti w')
  have HBL := Lib.hid (fun w' => block_any k r s wi bu q qu t wo ws ti w')
  rw [hv] at HC
  have hcf := cf_ok h
  have hmul := cf_mul hcf
  generalize blockV k s = bl at *
  have x1 : wrap64 (wi * bl) = wi * bl := IntWalk.wrap64_in _ (by omega)
  have x2 : wrap64 (256 * wi) = 256 * wi := IntWalk.wrap64_in _ (by have := hcf.wi; omega)
  have x3 : wrap64 (wo + 256 * wi) = wo + 256 * wi := IntWalk.wrap64_in _ (by have := hcf.wi; have := hcf.wo; omega)
  have x4 : wrap64 (bu + wi * bl) = bu + wi * bl := IntWalk.wrap64_in _ (by have := hcf.bu; have := hcf.bl; omega)
  have x5 : wrap64 (q + wi * bl) = q + wi * bl := IntWalk.wrap64_in _ (by have := hcf.q; have := hcf.bl; omega)
  have x6 : wrap64 (wi + 3) = wi + 3 := IntWalk.wrap64_in _ (by have := hcf.wi; omega)
  have x7 : wrap64 (256 * (wi + 3)) = 256 * (wi + 3) := IntWalk.wrap64_in _ (by have := hcf.wi; omega)
  have HB := Lib.hid (Below.chainAlloc (Below.chainAlloc (Below.refl _ w) (.cells #[.int .i64 k, .int .i64 r, .int .i64 s, .int .i64 wi, .int .i64 bu, .int .i64 q, .int .i64 qu, .int .i64 t, .int .i64 wo, .int .i64 ws, .int .i64 ti] 23)) (.cells #[.int .i64 0, .int .i64 0, .int .i64 0, .int .i64 0, .int .i64 0, .int .i64 0] 24))
  have HZ := Lib.hid (Blk.newAt (cs := #[.int .i64 0, .int .i64 0, .int .i64 0, .int .i64 0, .int .i64 0, .int .i64 0]) (t := 24) (size_alloc w (.cells #[.int .i64 k, .int .i64 r, .int .i64 s, .int .i64 wi, .int .i64 bu, .int .i64 q, .int .i64 qu, .int .i64 t, .int .i64 wo, .int .i64 ws, .int .i64 ti] 23)).symm)
  have HK := Lib.hid ((Blk.new w #[.int .i64 k, .int .i64 r, .int .i64 s, .int .i64 wi, .int .i64 bu, .int .i64 q, .int .i64 qu, .int .i64 t, .int .i64 wo, .int .i64 ws, .int .i64 ti] 23).alloc (.cells #[.int .i64 0, .int .i64 0, .int .i64 0, .int .i64 0, .int .i64 0, .int .i64 0] 24))
  clear h hv hcf hmul
  go_enter Try.func6, Try.ntmps6
  go_wp2_with fail
  generalize (w.alloc (.cells #[.int .i64 k, .int .i64 r, .int .i64 s, .int .i64 wi, .int .i64 bu, .int .i64 q, .int .i64 qu, .int .i64 t, .int .i64 wo, .int .i64 ws, .int .i64 ti] 23)).alloc (.cells #[.int .i64 0, .int .i64 0, .int .i64 0, .int .i64 0, .int .i64 0, .int .i64 0] 24) = W0 at *
  obtain ⟨b, hb⟩ : ∃ b, w.heap.size = b := ⟨_, rfl⟩
  rw [hb] at HB HZ HK ⊢
  refine (HC.out W0).mono ?_
  rintro e w1 ⟨rfl, hb1⟩
  have HB1 : Hid (Below b w w1) := Lib.hid (by have := Below.chain hb1 (by rw [hb]; exact HB.out); rw [hb] at this; exact this)
  have HZ1 := Lib.hid (HZ.out.below hb1 HZ.out.lt)
  have HK1 := Lib.hid (HK.out.below hb1 HK.out.lt)
  clear hb1
  have HCE : Hid (∀ w', Below w1.heap.size w1 w' → (∀ o, w'.cell? ⟨b, o, none⟩ = (#[.int .i64 k, .int .i64 r, .int .i64 s, .int .i64 wi, .int .i64 bu, .int .i64 q, .int .i64 qu, .int .i64 t, .int .i64 wo, .int .i64 ws, .int .i64 ti] : Array Value)[o]?) ∧ Below w1.heap.size w1 w') := Lib.hid fun w' hb' => ⟨cellsOf (HK1.out.below hb' HK1.out.lt), hb'⟩
  have c3 := HK1.out.facts.1 3
  go_wp2_with fail
  go_region_held3 (fun w' => (∀ o, w'.cell? ⟨b, o, none⟩ = (#[.int .i64 k, .int .i64 r, .int .i64 s, .int .i64 wi, .int .i64 bu, .int .i64 q, .int .i64 qu, .int .i64 t, .int .i64 wo, .int .i64 ws, .int .i64 ti] : Array Value)[o]?) ∧ Below w1.heap.size w1 w')
    (first
      | exact HCE.out _ (Below.refl _ w1).drew
      | (go_split_ands; exact HCE.out _ (Below.chain hb' (by assumption))))
    ((first
      | (go_at_call 11; refine (HBL.out _).mono ?_; rintro e w2 ⟨rfl, hb'⟩)))
  have hw2 : Below w1.heap.size w1 w2 := by first | assumption | (go_split_ands; assumption)
  have kz := HZ1.out.below hw2 HZ1.out.lt
  have kk := HK1.out.below hw2 HK1.out.lt
  have z0 := kz.facts.1 0
  have fz0 := kz.facts.2.1 0
  have z1 := kz.facts.1 1
  have fz1 := kz.facts.2.1 1
  have z2 := kz.facts.1 2
  have fz2 := kz.facts.2.1 2
  have z3 := kz.facts.1 3
  have fz3 := kz.facts.2.1 3
  have z4 := kz.facts.1 4
  have fz4 := kz.facts.2.1 4
  have z5 := kz.facts.1 5
  have fz5 := kz.facts.2.1 5
  have k0 := kk.facts.1 0
  have k1 := kk.facts.1 1
  have k2 := kk.facts.1 2
  have k3 := kk.facts.1 3
  have k4 := kk.facts.1 4
  have k5 := kk.facts.1 5
  have k6 := kk.facts.1 6
  have k7 := kk.facts.1 7
  have k8 := kk.facts.1 8
  have k9 := kk.facts.1 9
  have k10 := kk.facts.1 10
  have HB2 : Hid (Below b w w2) := Lib.hid (by have := Below.chain hw2 (by rw [hb]; exact HB1.out); rw [hb] at this; exact this)
  clear kz kk hw2 c3
  go_wp2_with fail
  exact bodyPost_ret (v := .agg #[.int .i64 t, .int .i64 (wo + 256 * wi), .int .i64 (bu + wi * bl), .int .i64 (q + wi * bl), .int .i64 (256 * (wi + 3)), .int .i64 256]) (by simp [results, Try.results6, go_sem, z0, z1, z2, z3, z4, z5]) rfl ⟨rfl, by rw [hb]; exact ((((((HB2.out.setCell (show b ≤ b + 1 by omega) _).setCell (show b ≤ b + 1 by omega) _).setCell (show b ≤ b + 1 by omega) _).setCell (show b ≤ b + 1 by omega) _).setCell (show b ≤ b + 1 by omega) _).setCell (show b ≤ b + 1 by omega) _)⟩
theorem most_any (k r s wi bu q qu t wo ws ti : Int) (w : World) : Calls Try.prog 6 #[.agg #[.int .i64 k, .int .i64 r, .int .i64 s, .int .i64 wi, .int .i64 bu, .int .i64 q, .int .i64 qu, .int .i64 t, .int .i64 wo, .int .i64 ws, .int .i64 ti]] w fun e w' => e = .returned (.agg (sixA (mostF k r s wi bu q qu t wo ws ti))) ∧ Below w.heap.size w w' := by
  cases h : chkB k r s wi bu q qu t wo ws ti with
  | false => exact most_no k r s wi bu q qu t wo ws ti w h
  | true => exact most_yes k r s wi bu q qu t wo ws ti w h
theorem within_any (k r s wi bu q qu t wo ws ti : Int) (l : Nat → Int) (w : World) : Calls Try.prog 7 #[.agg #[.int .i64 k, .int .i64 r, .int .i64 s, .int .i64 wi, .int .i64 bu, .int .i64 q, .int .i64 qu, .int .i64 t, .int .i64 wo, .int .i64 ws, .int .i64 ti], .agg (sixA l)] w fun e w' => e = .returned (.bool (okB l (mostF k r s wi bu q qu t wo ws ti) 6)) ∧ Below w.heap.size w w' := by
  have HM := Lib.hid (fun w' => most_any k r s wi bu q qu t wo ws ti w')
  generalize mostF k r s wi bu q qu t wo ws ti = m at *
  unfold sixA at *
  have HB := Lib.hid (Below.chainAlloc (Below.chainAlloc (Below.refl _ w) (.cells #[.int .i64 k, .int .i64 r, .int .i64 s, .int .i64 wi, .int .i64 bu, .int .i64 q, .int .i64 qu, .int .i64 t, .int .i64 wo, .int .i64 ws, .int .i64 ti] 23)) (.cells (sixA l) 24))
  have HL := Lib.hid (Blk.newAt (cs := sixA l) (t := 24) (size_alloc w (.cells #[.int .i64 k, .int .i64 r, .int .i64 s, .int .i64 wi, .int .i64 bu, .int .i64 q, .int .i64 qu, .int .i64 t, .int .i64 wo, .int .i64 ws, .int .i64 ti] 23)).symm)
  have HA : Hid (∀ b1 b2 w', (∀ i, i < 6 → w'.cell? ⟨b1, i, none⟩ = some (.int .i64 (l i))) → (∀ i, i < 6 → w'.cell? ⟨b2, i, none⟩ = some (.int .i64 (m i))) → Calls Try.prog 12 #[.slice (some ⟨b1, 0, none⟩) 6 6, .slice (some ⟨b2, 0, none⟩) 6 6, .func (.func 13) #[] #[]] w' fun e w'' => e = .returned (.bool (okB l m 6)) ∧ Below w'.heap.size w' w'') := Lib.hid fun b1 b2 w' h1 h2 => all6_any b1 b2 l m w' h1 h2
  have HSL := Lib.hid (six_at l)
  have HSM := Lib.hid (six_at m)
  generalize okB l m 6 = r at *
  unfold sixA at *
  go_enter Try.func7, Try.ntmps7
  go_wp2_with fail
  refine (HM.out _).mono ?_
  rintro e w1 ⟨rfl, hb1⟩
  have hk := HL.out.below hb1 HL.out.lt
  have hm := Blk.new w1 #[.int .i64 (m 0), .int .i64 (m 1), .int .i64 (m 2), .int .i64 (m 3), .int .i64 (m 4), .int .i64 (m 5)] 24
  have ha := Below.chainAlloc (Below.refl _ w1) (.cells #[.int .i64 (m 0), .int .i64 (m 1), .int .i64 (m 2), .int .i64 (m 3), .int .i64 (m 4), .int .i64 (m 5)] 24)
  have HB2 := Lib.hid (Below.chain ha (Below.chain hb1 HB.out))
  have HK2 := Lib.hid (hk.below ha hk.lt)
  have HM2 := Lib.hid hm
  clear hb1 hk hm ha
  go_wp2_with fail
  generalize w1.alloc (.cells #[.int .i64 (m 0), .int .i64 (m 1), .int .i64 (m 2), .int .i64 (m 3), .int .i64 (m 4), .int .i64 (m 5)] 24) = W2 at *
  generalize w1.heap.size = b2 at *
  have HCA := Lib.hid (HA.out (w.heap.size + 1) b2 W2.drew (fun i hi => by rw [show W2.drew.cell? ⟨w.heap.size + 1, i, none⟩ = W2.cell? ⟨w.heap.size + 1, i, none⟩ by simp, HK2.out.facts.1 i]; exact HSL.out i hi) (fun i hi => by rw [show W2.drew.cell? ⟨b2, i, none⟩ = W2.cell? ⟨b2, i, none⟩ by simp, HM2.out.facts.1 i]; exact HSM.out i hi))
  go_region_held3 (fun w' => w' = W2.drew ∨ Below W2.heap.size W2 w')
    (first
      | exact .inl rfl
      | exact .inr hb3)
    ((first
      | (go_at_call 12; refine HCA.out.mono ?_; rintro e w3 ⟨rfl, hb3'⟩; have hb3 : Below W2.heap.size W2 w3 := Below.chain hb3' (Below.refl _ W2).drew)))
  go_wp2_with fail
  go_ret
  exact ⟨rfl, Below.chain hb3 HB2.out⟩
end Go.Proofs.Yteepdknnmdhckaa
