/-
  How much there may be: the walk of the law CapsMost (chapter 37).
-/
import Derived.Test.YteepdknnmdhckaaCp7
namespace Go.Proofs.Yteepdknnmdhckaa
open Go Go.RowKit
set_option linter.unusedVariables false
set_option linter.unusedSimpArgs false
set_option maxRecDepth 100000
set_option maxHeartbeats 2000000
/-- How all lies: the settings, the load, the most. -/
structure CapS (W : World) (bk : Nat) (cf : Array Value) (l m : Nat → Int) (w : World) : Prop where
  k : Blk w bk cf 23
  l : Blk w (bk + 1) (sixA l) 24
  m : Blk w (bk + 1 + 1) (sixA m) 24
  b : Below W.heap.size W w
  lo : W.heap.size ≤ bk
theorem CapS.below {W w w' : World} {bk : Nat} {cf : Array Value} {l m : Nat → Int} (h : CapS W bk cf l m w) (hb : Below w.heap.size w w') : CapS W bk cf l m w' := ⟨h.k.below hb h.k.lt, h.l.below hb h.l.lt, h.m.below hb h.m.lt, Below.chain hb h.b, h.lo⟩
theorem CapS.set {W w : World} {bk : Nat} {cf cs : Array Value} {l m : Nat → Int} {v0 v1 v2 v3 v4 v5 : Value} (hk : Blk w bk cf 23) (hl : Blk w (bk + 1) (sixA l) 24) (hm : Blk w (bk + 1 + 1) #[.int .i64 0, .int .i64 0, .int .i64 0, .int .i64 0, .int .i64 0, .int .i64 0] 24) (hb : Below W.heap.size W w) (hlo : W.heap.size ≤ bk) (he : sixA m = #[v0, v1, v2, v3, v4, v5]) :
    CapS W bk cf l m ((((((w.setCell ⟨bk + 1 + 1, 0, none⟩ v0).setCell ⟨bk + 1 + 1, 1, none⟩ v1).setCell ⟨bk + 1 + 1, 2, none⟩ v2).setCell ⟨bk + 1 + 1, 3, none⟩ v3).setCell ⟨bk + 1 + 1, 4, none⟩ v4).setCell ⟨bk + 1 + 1, 5, none⟩ v5) := by
  have ho : Only [bk + 1 + 1] w ((((((w.setCell ⟨bk + 1 + 1, 0, none⟩ v0).setCell ⟨bk + 1 + 1, 1, none⟩ v1).setCell ⟨bk + 1 + 1, 2, none⟩ v2).setCell ⟨bk + 1 + 1, 3, none⟩ v3).setCell ⟨bk + 1 + 1, 4, none⟩ v4).setCell ⟨bk + 1 + 1, 5, none⟩ v5) := ((((((Only.refl _ _).setCell _ _ (.inl (by simp))).setCell _ _ (.inl (by simp))).setCell _ _ (.inl (by simp))).setCell _ _ (.inl (by simp))).setCell _ _ (.inl (by simp))).setCell _ _ (.inl (by simp))
  refine ⟨hk.only ho (by simp; omega), hl.only ho (by simp), ?_, Below.only hb ho (fun x hx => by simp at hx; omega), hlo⟩
  rw [he]
  exact (((((hm.setAt 0 _ rfl).setAt 1 _ rfl).setAt 2 _ rfl).setAt 3 _ rfl).setAt 4 _ rfl).setAt 5 _ rfl
theorem CapS.at {W w : World} {bk : Nat} {cf : Array Value} {l m : Nat → Int} (h : CapS W bk cf l m w) (i : Nat) (hi : i < 6) : w.cell? ⟨bk + 1, i, none⟩ = some (.int .i64 (l i)) ∧ w.cell? ⟨bk + 1 + 1, i, none⟩ = some (.int .i64 (m i)) :=
  ⟨(h.l.facts.1 i).trans (six_at l i hi), (h.m.facts.1 i).trans (six_at m i hi)⟩
theorem caps_no (k r s wi bu q qu t wo ws ti : Int) (l : Nat → Int) (w : World) (h : chkB k r s wi bu q qu t wo ws ti = false) : Calls Try.prog 3 #[.agg #[.int .i64 k, .int .i64 r, .int .i64 s, .int .i64 wi, .int .i64 bu, .int .i64 q, .int .i64 qu, .int .i64 t, .int .i64 wo, .int .i64 ws, .int .i64 ti], .agg #[.int .i64 (l 0), .int .i64 (l 1), .int .i64 (l 2), .int .i64 (l 3), .int .i64 (l 4), .int .i64 (l 5)]] w fun e w' => e = .returned (.bool true) ∧ Below w.heap.size w w' := by
  have HMM := Lib.hid (fun w' => most_any k r s wi bu q qu t wo ws ti w')
  have HWW := Lib.hid (fun w' => within_any k r s wi bu q qu t wo ws ti l w')
  have HCK := Lib.hid (fun w' => rcheck_any k r s wi bu q qu t wo ws ti w')
  have ha := Below.chainAlloc (Below.chainAlloc (Below.chainAlloc (Below.refl _ w) (.cells #[.int .i64 k, .int .i64 r, .int .i64 s, .int .i64 wi, .int .i64 bu, .int .i64 q, .int .i64 qu, .int .i64 t, .int .i64 wo, .int .i64 ws, .int .i64 ti] 23)) (.cells #[.int .i64 (l 0), .int .i64 (l 1), .int .i64 (l 2), .int .i64 (l 3), .int .i64 (l 4), .int .i64 (l 5)] 24)) (.cells #[.int .i64 0, .int .i64 0, .int .i64 0, .int .i64 0, .int .i64 0, .int .i64 0] 24)
  have HB0 : Hid ((Blk (((w.alloc (.cells #[.int .i64 k, .int .i64 r, .int .i64 s, .int .i64 wi, .int .i64 bu, .int .i64 q, .int .i64 qu, .int .i64 t, .int .i64 wo, .int .i64 ws, .int .i64 ti] 23)).alloc (.cells #[.int .i64 (l 0), .int .i64 (l 1), .int .i64 (l 2), .int .i64 (l 3), .int .i64 (l 4), .int .i64 (l 5)] 24)).alloc (.cells #[.int .i64 0, .int .i64 0, .int .i64 0, .int .i64 0, .int .i64 0, .int .i64 0] 24)) w.heap.size #[.int .i64 k, .int .i64 r, .int .i64 s, .int .i64 wi, .int .i64 bu, .int .i64 q, .int .i64 qu, .int .i64 t, .int .i64 wo, .int .i64 ws, .int .i64 ti] 23 ∧ Blk (((w.alloc (.cells #[.int .i64 k, .int .i64 r, .int .i64 s, .int .i64 wi, .int .i64 bu, .int .i64 q, .int .i64 qu, .int .i64 t, .int .i64 wo, .int .i64 ws, .int .i64 ti] 23)).alloc (.cells #[.int .i64 (l 0), .int .i64 (l 1), .int .i64 (l 2), .int .i64 (l 3), .int .i64 (l 4), .int .i64 (l 5)] 24)).alloc (.cells #[.int .i64 0, .int .i64 0, .int .i64 0, .int .i64 0, .int .i64 0, .int .i64 0] 24)) (w.heap.size + 1) (sixA l) 24 ∧ Blk (((w.alloc (.cells #[.int .i64 k, .int .i64 r, .int .i64 s, .int .i64 wi, .int .i64 bu, .int .i64 q, .int .i64 qu, .int .i64 t, .int .i64 wo, .int .i64 ws, .int .i64 ti] 23)).alloc (.cells #[.int .i64 (l 0), .int .i64 (l 1), .int .i64 (l 2), .int .i64 (l 3), .int .i64 (l 4), .int .i64 (l 5)] 24)).alloc (.cells #[.int .i64 0, .int .i64 0, .int .i64 0, .int .i64 0, .int .i64 0, .int .i64 0] 24)) (w.heap.size + 1 + 1) #[.int .i64 0, .int .i64 0, .int .i64 0, .int .i64 0, .int .i64 0, .int .i64 0] 24) ∧ Below w.heap.size w (((w.alloc (.cells #[.int .i64 k, .int .i64 r, .int .i64 s, .int .i64 wi, .int .i64 bu, .int .i64 q, .int .i64 qu, .int .i64 t, .int .i64 wo, .int .i64 ws, .int .i64 ti] 23)).alloc (.cells #[.int .i64 (l 0), .int .i64 (l 1), .int .i64 (l 2), .int .i64 (l 3), .int .i64 (l 4), .int .i64 (l 5)] 24)).alloc (.cells #[.int .i64 0, .int .i64 0, .int .i64 0, .int .i64 0, .int .i64 0, .int .i64 0] 24))) := Lib.hid ⟨⟨((Blk.new w _ _).alloc _).alloc _, (Blk.newAt (size_alloc _ _).symm).alloc _, Blk.newAt (by rw [size_alloc, size_alloc])⟩, ha⟩
  have hv : chkV k r s wi bu q qu t wo ws ti = 2 := by unfold chkV; rw [h]; rfl
  rw [hv] at HCK
  have HE : Hid (sixA (mostF k r s wi bu q qu t wo ws ti) = #[.int .i64 0, .int .i64 0, .int .i64 0, .int .i64 0, .int .i64 0, .int .i64 0]) := Lib.hid (by unfold sixA mostF; rw [h]; rfl)
  clear hv h
  generalize mostF k r s wi bu q qu t wo ws ti = m at *
  clear ha
  go_enter Try.func3, Try.ntmps3
  go_wp2_with fail
  generalize ((w.alloc (.cells #[.int .i64 k, .int .i64 r, .int .i64 s, .int .i64 wi, .int .i64 bu, .int .i64 q, .int .i64 qu, .int .i64 t, .int .i64 wo, .int .i64 ws, .int .i64 ti] 23)).alloc (.cells #[.int .i64 (l 0), .int .i64 (l 1), .int .i64 (l 2), .int .i64 (l 3), .int .i64 (l 4), .int .i64 (l 5)] 24)).alloc (.cells #[.int .i64 0, .int .i64 0, .int .i64 0, .int .i64 0, .int .i64 0, .int .i64 0] 24) = W0 at *
  obtain ⟨bk, hbk⟩ : ∃ bk, w.heap.size = bk := ⟨_, rfl⟩
  rw [hbk] at HB0 ⊢
  have HBK := Lib.hid hbk
  clear hbk
  have kk := HB0.out.1.1
  have k0 := kk.facts.1 0
  have k1 := kk.facts.1 1
  have k2 := kk.facts.1 2
  have k3 := kk.facts.1 3
  have k4 := kk.facts.1 4
  have k5 := kk.facts.1 5
  have k6 := kk.facts.1 6
  have k7 := kk.facts.1 7
  have k8 := kk.facts.1 8
  have k9 := kk.facts.1 9
  have k10 := kk.facts.1 10
  clear kk
  go_wp2_with fail
  refine (HCK.out W0).mono ?_
  rintro e w1 ⟨rfl, hb1⟩
  have HB1 : Hid ((Blk w1 bk #[.int .i64 k, .int .i64 r, .int .i64 s, .int .i64 wi, .int .i64 bu, .int .i64 q, .int .i64 qu, .int .i64 t, .int .i64 wo, .int .i64 ws, .int .i64 ti] 23 ∧ Blk w1 (bk + 1) (sixA l) 24 ∧ Blk w1 (bk + 1 + 1) #[.int .i64 0, .int .i64 0, .int .i64 0, .int .i64 0, .int .i64 0, .int .i64 0] 24) ∧ Below w.heap.size w w1) := Lib.hid ⟨⟨HB0.out.1.1.below hb1 HB0.out.1.1.lt, HB0.out.1.2.1.below hb1 HB0.out.1.2.1.lt, HB0.out.1.2.2.below hb1 HB0.out.1.2.2.lt⟩, Below.chain hb1 (by rw [HBK.out]; exact HB0.out.2)⟩
  clear k0 k1 k2 k3 k4 k5 k6 k7 k8 k9 k10 hb1 HB0
  have HS : Hid (CapS w bk #[.int .i64 k, .int .i64 r, .int .i64 s, .int .i64 wi, .int .i64 bu, .int .i64 q, .int .i64 qu, .int .i64 t, .int .i64 wo, .int .i64 ws, .int .i64 ti] l m w1) := Lib.hid ⟨HB1.out.1.1, HB1.out.1.2.1, by rw [HE.out]; exact HB1.out.1.2.2, HB1.out.2, by have := HBK.out; omega⟩
  clear HB1 HE
  go_wp2_with fail
  have HMA : Hid (∀ w', Calls Try.prog 6 #[.agg #[.int .i64 k, .int .i64 r, .int .i64 s, .int .i64 wi, .int .i64 bu, .int .i64 q, .int .i64 qu, .int .i64 t, .int .i64 wo, .int .i64 ws, .int .i64 ti]] w' fun e w'' => e = .returned (.agg #[.int .i64 (m 0), .int .i64 (m 1), .int .i64 (m 2), .int .i64 (m 3), .int .i64 (m 4), .int .i64 (m 5)]) ∧ Below w'.heap.size w' w'') := Lib.hid fun w' => HMM.out w'
  have HWA : Hid (∀ w', Calls Try.prog 7 #[.agg #[.int .i64 k, .int .i64 r, .int .i64 s, .int .i64 wi, .int .i64 bu, .int .i64 q, .int .i64 qu, .int .i64 t, .int .i64 wo, .int .i64 ws, .int .i64 ti], .agg #[.int .i64 (l 0), .int .i64 (l 1), .int .i64 (l 2), .int .i64 (l 3), .int .i64 (l 4), .int .i64 (l 5)]] w' fun e w'' => e = .returned (.bool (okB l m 6)) ∧ Below w'.heap.size w' w'') := Lib.hid fun w' => HWW.out w'
  have hq := run_eql6 (m 0) (m 1) (m 2) (m 3) (m 4) (m 5)
  go_loopg [7, 8] 6 (fun gk v7 i wr => ∃ sd : Nat, 6 - sd ≤ gk ∧ sd ≤ 6 ∧ i = .int .i64 (sd : Int) ∧ v7 = .bool (okB l m sd) ∧ Hid (CapS w bk #[.int .i64 k, .int .i64 r, .int .i64 s, .int .i64 wi, .int .i64 bu, .int .i64 q, .int .i64 qu, .int .i64 t, .int .i64 wo, .int .i64 ws, .int .i64 ti] l m wr))
  case atStart => exact ⟨0, by omega, by omega, rfl, rfl, HS⟩
  case round =>
    clear HS
    obtain ⟨sd, hkg, hk, rfl, rfl, HREL⟩ := hrel
    by_cases hlt : sd < 6
    · have hlt' : (sd : Int) < 6 := by omega
      have hs0 : (0 : Int) ≤ (sd : Int) := by omega
      have HLT := Lib.hid hlt
      obtain ⟨c1, c2⟩ := HREL.out.at sd hlt
      have HOK := Lib.hid (fun (h : okB l m sd = true) (h2 : in0 (l sd) (m sd) = true) => okB_succ h h2)
      have HNO := Lib.hid (fun (h : okB l m sd = false) => (show okB l m (sd + 1) = false by unfold okB; rw [h]; rfl))
      have HN2 := Lib.hid (fun (h2 : in0 (l sd) (m sd) = false) => (show okB l m (sd + 1) = false by unfold okB; rw [h2]; simp))
      clear hlt hq
      cases hok : okB l m sd with
      | false =>
          have HN := Lib.hid (HNO.out hok)
          clear hok c1 c2
          go_wp2_with fail
          go_quiet (fail)
          go_wp2_with fail
          go_roundg (6 - (sd + 1))
          case measure => have := HLT.out; omega
          case rel => exact ⟨sd + 1, Nat.le_refl _, HLT.out, by go_num, by rw [HN.out], Lib.hid (HREL.out.below (below_drewN (Below.refl _ _) _))⟩
      | true =>
          by_cases h1 : 0 ≤ l sd
          · by_cases h2 : l sd ≤ m sd
            · have HN := Lib.hid (HOK.out hok (by unfold in0; simp [h1, h2]))
              clear hok
              go_wp2_with fail
              go_quiet (fail)
              go_wp2_with fail
              go_roundg (6 - (sd + 1))
              case measure => have := HLT.out; omega
              case rel => exact ⟨sd + 1, Nat.le_refl _, HLT.out, by go_num, by rw [HN.out], Lib.hid (HREL.out.below (below_drewN (Below.refl _ _) _))⟩
            · have HN := Lib.hid (HN2.out (by unfold in0; simp [h2]))
              clear hok
              go_wp2_with fail
              go_quiet (fail)
              go_wp2_with fail
              go_roundg (6 - (sd + 1))
              case measure => have := HLT.out; omega
              case rel => exact ⟨sd + 1, Nat.le_refl _, HLT.out, by go_num, by rw [HN.out]; simp [h2], Lib.hid (HREL.out.below (below_drewN (Below.refl _ _) _))⟩
          · have HN := Lib.hid (HN2.out (by unfold in0; simp [h1]))
            have hd := decide_eq_false h1
            clear hok
            go_wp2_with fail
            go_quiet (fail)
            go_wp2_with fail
            go_roundg (6 - (sd + 1))
            case measure => have := HLT.out; omega
            case rel => exact ⟨sd + 1, Nat.le_refl _, HLT.out, by go_num, by rw [HN.out], Lib.hid (HREL.out.below (below_drewN (Below.refl _ _) _))⟩
    · obtain rfl : sd = 6 := by omega
      have hlt' : ¬ ((6 : Nat) : Int) < 6 := by omega
      generalize okB l m 6 = rb at *
      clear hlt
      have HCE : Hid (∀ w', CapS w bk #[.int .i64 k, .int .i64 r, .int .i64 s, .int .i64 wi, .int .i64 bu, .int .i64 q, .int .i64 qu, .int .i64 t, .int .i64 wo, .int .i64 ws, .int .i64 ti] l m w' → ((∀ o, w'.cell? ⟨bk, o, none⟩ = (#[.int .i64 k, .int .i64 r, .int .i64 s, .int .i64 wi, .int .i64 bu, .int .i64 q, .int .i64 qu, .int .i64 t, .int .i64 wo, .int .i64 ws, .int .i64 ti] : Array Value)[o]?) ∧ (∀ o, w'.cell? ⟨bk + 1, o, none⟩ = (#[.int .i64 (l 0), .int .i64 (l 1), .int .i64 (l 2), .int .i64 (l 3), .int .i64 (l 4), .int .i64 (l 5)] : Array Value)[o]?) ∧ (∀ o, w'.cell? ⟨bk + 1 + 1, o, none⟩ = (#[.int .i64 (m 0), .int .i64 (m 1), .int .i64 (m 2), .int .i64 (m 3), .int .i64 (m 4), .int .i64 (m 5)] : Array Value)[o]?)) ∧ CapS w bk #[.int .i64 k, .int .i64 r, .int .i64 s, .int .i64 wi, .int .i64 bu, .int .i64 q, .int .i64 qu, .int .i64 t, .int .i64 wo, .int .i64 ws, .int .i64 ti] l m w') := Lib.hid fun w' h => ⟨⟨cellsOf h.k, cellsOf h.l, cellsOf h.m⟩, h⟩
      have H0 := Lib.hid (HREL.out.below (Below.refl _ wr).drew)
      go_upto_region 10 with fail
      go_region_held3 (fun w' => ((∀ o, w'.cell? ⟨bk, o, none⟩ = (#[.int .i64 k, .int .i64 r, .int .i64 s, .int .i64 wi, .int .i64 bu, .int .i64 q, .int .i64 qu, .int .i64 t, .int .i64 wo, .int .i64 ws, .int .i64 ti] : Array Value)[o]?) ∧ (∀ o, w'.cell? ⟨bk + 1, o, none⟩ = (#[.int .i64 (l 0), .int .i64 (l 1), .int .i64 (l 2), .int .i64 (l 3), .int .i64 (l 4), .int .i64 (l 5)] : Array Value)[o]?) ∧ (∀ o, w'.cell? ⟨bk + 1 + 1, o, none⟩ = (#[.int .i64 (m 0), .int .i64 (m 1), .int .i64 (m 2), .int .i64 (m 3), .int .i64 (m 4), .int .i64 (m 5)] : Array Value)[o]?)) ∧ CapS w bk #[.int .i64 k, .int .i64 r, .int .i64 s, .int .i64 wi, .int .i64 bu, .int .i64 q, .int .i64 qu, .int .i64 t, .int .i64 wo, .int .i64 ws, .int .i64 ti] l m w')
        (first
          | with_reducible exact HCE.out _ H0.out
          | (go_split_ands; exact HCE.out _ (CapS.below (by with_reducible assumption) hb')))
        ((first
          | (go_at_call 6; refine (HMA.out _).mono ?_; rintro e wy ⟨rfl, hb'⟩)
          | (go_at_call 7; refine (HWA.out _).mono ?_; rintro e wy ⟨rfl, hb'⟩)
          | (go_at_call 8; refine (awake37_ok _).mono ?_; rintro e wy ⟨rfl, hb'⟩)))
      go_wp2_with fail
      go_ret
      exact ⟨rfl, CapS.b (by first | assumption | (go_split_ands; assumption))⟩
theorem caps_yes (k r s wi bu q qu t wo ws ti : Int) (l : Nat → Int) (w : World) (h : chkB k r s wi bu q qu t wo ws ti = true) : Calls Try.prog 3 #[.agg #[.int .i64 k, .int .i64 r, .int .i64 s, .int .i64 wi, .int .i64 bu, .int .i64 q, .int .i64 qu, .int .i64 t, .int .i64 wo, .int .i64 ws, .int .i64 ti], .agg #[.int .i64 (l 0), .int .i64 (l 1), .int .i64 (l 2), .int .i64 (l 3), .int .i64 (l 4), .int .i64 (l 5)]] w fun e w' => e = .returned (.bool true) ∧ Below w.heap.size w w' := by
  have HMM := Lib.hid (fun w' => most_any k r s wi bu q qu t wo ws ti w')
  have HWW := Lib.hid (fun w' => within_any k r s wi bu q qu t wo ws ti l w')
  have HCK := Lib.hid (fun w' => rcheck_any k r s wi bu q qu t wo ws ti w')
  have ha := Below.chainAlloc (Below.chainAlloc (Below.chainAlloc (Below.refl _ w) (.cells #[.int .i64 k, .int .i64 r, .int .i64 s, .int .i64 wi, .int .i64 bu, .int .i64 q, .int .i64 qu, .int .i64 t, .int .i64 wo, .int .i64 ws, .int .i64 ti] 23)) (.cells #[.int .i64 (l 0), .int .i64 (l 1), .int .i64 (l 2), .int .i64 (l 3), .int .i64 (l 4), .int .i64 (l 5)] 24)) (.cells #[.int .i64 0, .int .i64 0, .int .i64 0, .int .i64 0, .int .i64 0, .int .i64 0] 24)
  have HB0 : Hid ((Blk (((w.alloc (.cells #[.int .i64 k, .int .i64 r, .int .i64 s, .int .i64 wi, .int .i64 bu, .int .i64 q, .int .i64 qu, .int .i64 t, .int .i64 wo, .int .i64 ws, .int .i64 ti] 23)).alloc (.cells #[.int .i64 (l 0), .int .i64 (l 1), .int .i64 (l 2), .int .i64 (l 3), .int .i64 (l 4), .int .i64 (l 5)] 24)).alloc (.cells #[.int .i64 0, .int .i64 0, .int .i64 0, .int .i64 0, .int .i64 0, .int .i64 0] 24)) w.heap.size #[.int .i64 k, .int .i64 r, .int .i64 s, .int .i64 wi, .int .i64 bu, .int .i64 q, .int .i64 qu, .int .i64 t, .int .i64 wo, .int .i64 ws, .int .i64 ti] 23 ∧ Blk (((w.alloc (.cells #[.int .i64 k, .int .i64 r, .int .i64 s, .int .i64 wi, .int .i64 bu, .int .i64 q, .int .i64 qu, .int .i64 t, .int .i64 wo, .int .i64 ws, .int .i64 ti] 23)).alloc (.cells #[.int .i64 (l 0), .int .i64 (l 1), .int .i64 (l 2), .int .i64 (l 3), .int .i64 (l 4), .int .i64 (l 5)] 24)).alloc (.cells #[.int .i64 0, .int .i64 0, .int .i64 0, .int .i64 0, .int .i64 0, .int .i64 0] 24)) (w.heap.size + 1) (sixA l) 24 ∧ Blk (((w.alloc (.cells #[.int .i64 k, .int .i64 r, .int .i64 s, .int .i64 wi, .int .i64 bu, .int .i64 q, .int .i64 qu, .int .i64 t, .int .i64 wo, .int .i64 ws, .int .i64 ti] 23)).alloc (.cells #[.int .i64 (l 0), .int .i64 (l 1), .int .i64 (l 2), .int .i64 (l 3), .int .i64 (l 4), .int .i64 (l 5)] 24)).alloc (.cells #[.int .i64 0, .int .i64 0, .int .i64 0, .int .i64 0, .int .i64 0, .int .i64 0] 24)) (w.heap.size + 1 + 1) #[.int .i64 0, .int .i64 0, .int .i64 0, .int .i64 0, .int .i64 0, .int .i64 0] 24) ∧ Below w.heap.size w (((w.alloc (.cells #[.int .i64 k, .int .i64 r, .int .i64 s, .int .i64 wi, .int .i64 bu, .int .i64 q, .int .i64 qu, .int .i64 t, .int .i64 wo, .int .i64 ws, .int .i64 ti] 23)).alloc (.cells #[.int .i64 (l 0), .int .i64 (l 1), .int .i64 (l 2), .int .i64 (l 3), .int .i64 (l 4), .int .i64 (l 5)] 24)).alloc (.cells #[.int .i64 0, .int .i64 0, .int .i64 0, .int .i64 0, .int .i64 0, .int .i64 0] 24))) := Lib.hid ⟨⟨((Blk.new w _ _).alloc _).alloc _, (Blk.newAt (size_alloc _ _).symm).alloc _, Blk.newAt (by rw [size_alloc, size_alloc])⟩, ha⟩
  have hv : chkV k r s wi bu q qu t wo ws ti = 0 := by unfold chkV; rw [h]; rfl
  rw [hv] at HCK
  have HE : Hid (sixA (mostF k r s wi bu q qu t wo ws ti) = #[.int .i64 t, .int .i64 (wo + 256 * wi), .int .i64 (bu + wi * blockV k s), .int .i64 (q + wi * blockV k s), .int .i64 (256 * (wi + 3)), .int .i64 256]) := Lib.hid (by unfold sixA mostF; rw [h]; rfl)
  have HBL := Lib.hid (fun w' => rblock_any k r s wi bu q qu t wo ws ti w')
  have hcf := cf_ok h
  have hmul := cf_mul hcf
  generalize mostF k r s wi bu q qu t wo ws ti = m at *
  generalize blockV k s = bl at *
  have x1 : wrap64 (wi * bl) = wi * bl := IntWalk.wrap64_in _ (by omega)
  have x2 : wrap64 (256 * wi) = 256 * wi := IntWalk.wrap64_in _ (by have := hcf.wi; omega)
  have x3 : wrap64 (wo + 256 * wi) = wo + 256 * wi := IntWalk.wrap64_in _ (by have := hcf.wi; have := hcf.wo; omega)
  have x4 : wrap64 (bu + wi * bl) = bu + wi * bl := IntWalk.wrap64_in _ (by have := hcf.bu; have := hcf.bl; omega)
  have x5 : wrap64 (q + wi * bl) = q + wi * bl := IntWalk.wrap64_in _ (by have := hcf.q; have := hcf.bl; omega)
  have x6 : wrap64 (wi + 3) = wi + 3 := IntWalk.wrap64_in _ (by have := hcf.wi; omega)
  have x7 : wrap64 (256 * (wi + 3)) = 256 * (wi + 3) := IntWalk.wrap64_in _ (by have := hcf.wi; omega)
  clear hv h hcf hmul
  clear ha
  go_enter Try.func3, Try.ntmps3
  go_wp2_with fail
  generalize ((w.alloc (.cells #[.int .i64 k, .int .i64 r, .int .i64 s, .int .i64 wi, .int .i64 bu, .int .i64 q, .int .i64 qu, .int .i64 t, .int .i64 wo, .int .i64 ws, .int .i64 ti] 23)).alloc (.cells #[.int .i64 (l 0), .int .i64 (l 1), .int .i64 (l 2), .int .i64 (l 3), .int .i64 (l 4), .int .i64 (l 5)] 24)).alloc (.cells #[.int .i64 0, .int .i64 0, .int .i64 0, .int .i64 0, .int .i64 0, .int .i64 0] 24) = W0 at *
  obtain ⟨bk, hbk⟩ : ∃ bk, w.heap.size = bk := ⟨_, rfl⟩
  rw [hbk] at HB0 ⊢
  have HBK := Lib.hid hbk
  clear hbk
  have kk := HB0.out.1.1
  have k0 := kk.facts.1 0
  have k1 := kk.facts.1 1
  have k2 := kk.facts.1 2
  have k3 := kk.facts.1 3
  have k4 := kk.facts.1 4
  have k5 := kk.facts.1 5
  have k6 := kk.facts.1 6
  have k7 := kk.facts.1 7
  have k8 := kk.facts.1 8
  have k9 := kk.facts.1 9
  have k10 := kk.facts.1 10
  clear kk
  go_wp2_with fail
  refine (HCK.out W0).mono ?_
  rintro e w1 ⟨rfl, hb1⟩
  have HB1 : Hid ((Blk w1 bk #[.int .i64 k, .int .i64 r, .int .i64 s, .int .i64 wi, .int .i64 bu, .int .i64 q, .int .i64 qu, .int .i64 t, .int .i64 wo, .int .i64 ws, .int .i64 ti] 23 ∧ Blk w1 (bk + 1) (sixA l) 24 ∧ Blk w1 (bk + 1 + 1) #[.int .i64 0, .int .i64 0, .int .i64 0, .int .i64 0, .int .i64 0, .int .i64 0] 24) ∧ Below w.heap.size w w1) := Lib.hid ⟨⟨HB0.out.1.1.below hb1 HB0.out.1.1.lt, HB0.out.1.2.1.below hb1 HB0.out.1.2.1.lt, HB0.out.1.2.2.below hb1 HB0.out.1.2.2.lt⟩, Below.chain hb1 (by rw [HBK.out]; exact HB0.out.2)⟩
  clear k0 k1 k2 k3 k4 k5 k6 k7 k8 k9 k10 hb1 HB0
  have HCC : Hid (∀ w', Below w1.heap.size w1 w' → (∀ o, w'.cell? ⟨bk, o, none⟩ = (#[.int .i64 k, .int .i64 r, .int .i64 s, .int .i64 wi, .int .i64 bu, .int .i64 q, .int .i64 qu, .int .i64 t, .int .i64 wo, .int .i64 ws, .int .i64 ti] : Array Value)[o]?) ∧ Below w1.heap.size w1 w') := Lib.hid fun w' hb' => ⟨cellsOf (HB1.out.1.1.below hb' HB1.out.1.1.lt), hb'⟩
  have c3 := HB1.out.1.1.facts.1 3
  go_wp2_with fail
  go_region_held3 (fun w' => (∀ o, w'.cell? ⟨bk, o, none⟩ = (#[.int .i64 k, .int .i64 r, .int .i64 s, .int .i64 wi, .int .i64 bu, .int .i64 q, .int .i64 qu, .int .i64 t, .int .i64 wo, .int .i64 ws, .int .i64 ti] : Array Value)[o]?) ∧ Below w1.heap.size w1 w')
    (first
      | exact HCC.out _ (Below.refl _ w1).drew
      | (go_split_ands; exact HCC.out _ (Below.chain hb' (by assumption))))
    ((first
      | (go_at_call 5; refine (HBL.out _).mono ?_; rintro e w2 ⟨rfl, hb'⟩)))
  have hw2 : Below w1.heap.size w1 w2 := by first | assumption | (go_split_ands; assumption)
  have kz := HB1.out.1.2.2.below hw2 HB1.out.1.2.2.lt
  have kk := HB1.out.1.1.below hw2 HB1.out.1.1.lt
  have z0 := kz.facts.1 0
  have fz0 := kz.facts.2.1 0
  have z1 := kz.facts.1 1
  have fz1 := kz.facts.2.1 1
  have z2 := kz.facts.1 2
  have fz2 := kz.facts.2.1 2
  have z3 := kz.facts.1 3
  have fz3 := kz.facts.2.1 3
  have z4 := kz.facts.1 4
  have fz4 := kz.facts.2.1 4
  have z5 := kz.facts.1 5
  have fz5 := kz.facts.2.1 5
  have k0 := kk.facts.1 0
  have k1 := kk.facts.1 1
  have k2 := kk.facts.1 2
  have k3 := kk.facts.1 3
  have k4 := kk.facts.1 4
  have k5 := kk.facts.1 5
  have k6 := kk.facts.1 6
  have k7 := kk.facts.1 7
  have k8 := kk.facts.1 8
  have k9 := kk.facts.1 9
  have k10 := kk.facts.1 10
  have HS := Lib.hid (CapS.set (m := m) (cs := #[]) kk (HB1.out.1.2.1.below hw2 HB1.out.1.2.1.lt) kz (Below.chain hw2 HB1.out.2) (by have := HBK.out; omega) HE.out)
  clear kz kk hw2 c3
  go_wp2_with fail
  clear k0 k1 k2 k3 k4 k5 k6 k7 k8 k9 k10 z0 z1 z2 z3 z4 z5 fz0 fz1 fz2 fz3 fz4 fz5 x1 x2 x3 x4 x5 x6 x7 HB1 HCC HBL
  have HMA : Hid (∀ w', Calls Try.prog 6 #[.agg #[.int .i64 k, .int .i64 r, .int .i64 s, .int .i64 wi, .int .i64 bu, .int .i64 q, .int .i64 qu, .int .i64 t, .int .i64 wo, .int .i64 ws, .int .i64 ti]] w' fun e w'' => e = .returned (.agg #[.int .i64 (m 0), .int .i64 (m 1), .int .i64 (m 2), .int .i64 (m 3), .int .i64 (m 4), .int .i64 (m 5)]) ∧ Below w'.heap.size w' w'') := Lib.hid fun w' => HMM.out w'
  have HWA : Hid (∀ w', Calls Try.prog 7 #[.agg #[.int .i64 k, .int .i64 r, .int .i64 s, .int .i64 wi, .int .i64 bu, .int .i64 q, .int .i64 qu, .int .i64 t, .int .i64 wo, .int .i64 ws, .int .i64 ti], .agg #[.int .i64 (l 0), .int .i64 (l 1), .int .i64 (l 2), .int .i64 (l 3), .int .i64 (l 4), .int .i64 (l 5)]] w' fun e w'' => e = .returned (.bool (okB l m 6)) ∧ Below w'.heap.size w' w'') := Lib.hid fun w' => HWW.out w'
  have hq := run_eql6 (m 0) (m 1) (m 2) (m 3) (m 4) (m 5)
  go_loopg [7, 8] 6 (fun gk v7 i wr => ∃ sd : Nat, 6 - sd ≤ gk ∧ sd ≤ 6 ∧ i = .int .i64 (sd : Int) ∧ v7 = .bool (okB l m sd) ∧ Hid (CapS w bk #[.int .i64 k, .int .i64 r, .int .i64 s, .int .i64 wi, .int .i64 bu, .int .i64 q, .int .i64 qu, .int .i64 t, .int .i64 wo, .int .i64 ws, .int .i64 ti] l m wr))
  case atStart => exact ⟨0, by omega, by omega, rfl, rfl, HS⟩
  case round =>
    clear HS
    obtain ⟨sd, hkg, hk, rfl, rfl, HREL⟩ := hrel
    by_cases hlt : sd < 6
    · have hlt' : (sd : Int) < 6 := by omega
      have hs0 : (0 : Int) ≤ (sd : Int) := by omega
      have HLT := Lib.hid hlt
      obtain ⟨c1, c2⟩ := HREL.out.at sd hlt
      have HOK := Lib.hid (fun (h : okB l m sd = true) (h2 : in0 (l sd) (m sd) = true) => okB_succ h h2)
      have HNO := Lib.hid (fun (h : okB l m sd = false) => (show okB l m (sd + 1) = false by unfold okB; rw [h]; rfl))
      have HN2 := Lib.hid (fun (h2 : in0 (l sd) (m sd) = false) => (show okB l m (sd + 1) = false by unfold okB; rw [h2]; simp))
      clear hlt hq
      cases hok : okB l m sd with
      | false =>
          have HN := Lib.hid (HNO.out hok)
          clear hok c1 c2
          go_wp2_with fail
          go_quiet (fail)
          go_wp2_with fail
          go_roundg (6 - (sd + 1))
          case measure => have := HLT.out; omega
          case rel => exact ⟨sd + 1, Nat.le_refl _, HLT.out, by go_num, by rw [HN.out], Lib.hid (HREL.out.below (below_drewN (Below.refl _ _) _))⟩
      | true =>
          by_cases h1 : 0 ≤ l sd
          · by_cases h2 : l sd ≤ m sd
            · have HN := Lib.hid (HOK.out hok (by unfold in0; simp [h1, h2]))
              clear hok
              go_wp2_with fail
              go_quiet (fail)
              go_wp2_with fail
              go_roundg (6 - (sd + 1))
              case measure => have := HLT.out; omega
              case rel => exact ⟨sd + 1, Nat.le_refl _, HLT.out, by go_num, by rw [HN.out], Lib.hid (HREL.out.below (below_drewN (Below.refl _ _) _))⟩
            · have HN := Lib.hid (HN2.out (by unfold in0; simp [h2]))
              clear hok
              go_wp2_with fail
              go_quiet (fail)
              go_wp2_with fail
              go_roundg (6 - (sd + 1))
              case measure => have := HLT.out; omega
              case rel => exact ⟨sd + 1, Nat.le_refl _, HLT.out, by go_num, by rw [HN.out]; simp [h2], Lib.hid (HREL.out.below (below_drewN (Below.refl _ _) _))⟩
          · have HN := Lib.hid (HN2.out (by unfold in0; simp [h1]))
            have hd := decide_eq_false h1
            clear hok
            go_wp2_with fail
            go_quiet (fail)
            go_wp2_with fail
            go_roundg (6 - (sd + 1))
            case measure => have := HLT.out; omega
            case rel => exact ⟨sd + 1, Nat.le_refl _, HLT.out, by go_num, by rw [HN.out], Lib.hid (HREL.out.below (below_drewN (Below.refl _ _) _))⟩
    · obtain rfl : sd = 6 := by omega
      have hlt' : ¬ ((6 : Nat) : Int) < 6 := by omega
      generalize okB l m 6 = rb at *
      clear hlt
      have HCE : Hid (∀ w', CapS w bk #[.int .i64 k, .int .i64 r, .int .i64 s, .int .i64 wi, .int .i64 bu, .int .i64 q, .int .i64 qu, .int .i64 t, .int .i64 wo, .int .i64 ws, .int .i64 ti] l m w' → ((∀ o, w'.cell? ⟨bk, o, none⟩ = (#[.int .i64 k, .int .i64 r, .int .i64 s, .int .i64 wi, .int .i64 bu, .int .i64 q, .int .i64 qu, .int .i64 t, .int .i64 wo, .int .i64 ws, .int .i64 ti] : Array Value)[o]?) ∧ (∀ o, w'.cell? ⟨bk + 1, o, none⟩ = (#[.int .i64 (l 0), .int .i64 (l 1), .int .i64 (l 2), .int .i64 (l 3), .int .i64 (l 4), .int .i64 (l 5)] : Array Value)[o]?) ∧ (∀ o, w'.cell? ⟨bk + 1 + 1, o, none⟩ = (#[.int .i64 (m 0), .int .i64 (m 1), .int .i64 (m 2), .int .i64 (m 3), .int .i64 (m 4), .int .i64 (m 5)] : Array Value)[o]?)) ∧ CapS w bk #[.int .i64 k, .int .i64 r, .int .i64 s, .int .i64 wi, .int .i64 bu, .int .i64 q, .int .i64 qu, .int .i64 t, .int .i64 wo, .int .i64 ws, .int .i64 ti] l m w') := Lib.hid fun w' h => ⟨⟨cellsOf h.k, cellsOf h.l, cellsOf h.m⟩, h⟩
      have H0 := Lib.hid (HREL.out.below (Below.refl _ wr).drew)
      go_upto_region 10 with fail
      go_region_held3 (fun w' => ((∀ o, w'.cell? ⟨bk, o, none⟩ = (#[.int .i64 k, .int .i64 r, .int .i64 s, .int .i64 wi, .int .i64 bu, .int .i64 q, .int .i64 qu, .int .i64 t, .int .i64 wo, .int .i64 ws, .int .i64 ti] : Array Value)[o]?) ∧ (∀ o, w'.cell? ⟨bk + 1, o, none⟩ = (#[.int .i64 (l 0), .int .i64 (l 1), .int .i64 (l 2), .int .i64 (l 3), .int .i64 (l 4), .int .i64 (l 5)] : Array Value)[o]?) ∧ (∀ o, w'.cell? ⟨bk + 1 + 1, o, none⟩ = (#[.int .i64 (m 0), .int .i64 (m 1), .int .i64 (m 2), .int .i64 (m 3), .int .i64 (m 4), .int .i64 (m 5)] : Array Value)[o]?)) ∧ CapS w bk #[.int .i64 k, .int .i64 r, .int .i64 s, .int .i64 wi, .int .i64 bu, .int .i64 q, .int .i64 qu, .int .i64 t, .int .i64 wo, .int .i64 ws, .int .i64 ti] l m w')
        (first
          | with_reducible exact HCE.out _ H0.out
          | (go_split_ands; exact HCE.out _ (CapS.below (by with_reducible assumption) hb')))
        ((first
          | (go_at_call 6; refine (HMA.out _).mono ?_; rintro e wy ⟨rfl, hb'⟩)
          | (go_at_call 7; refine (HWA.out _).mono ?_; rintro e wy ⟨rfl, hb'⟩)
          | (go_at_call 8; refine (awake37_ok _).mono ?_; rintro e wy ⟨rfl, hb'⟩)))
      go_wp2_with fail
      go_ret
      exact ⟨rfl, CapS.b (by first | assumption | (go_split_ands; assumption))⟩
theorem caps_walk (k r s wi bu q qu t wo ws ti : Int) (l : Nat → Int) (w : World) : Calls Try.prog 3 #[.agg #[.int .i64 k, .int .i64 r, .int .i64 s, .int .i64 wi, .int .i64 bu, .int .i64 q, .int .i64 qu, .int .i64 t, .int .i64 wo, .int .i64 ws, .int .i64 ti], .agg #[.int .i64 (l 0), .int .i64 (l 1), .int .i64 (l 2), .int .i64 (l 3), .int .i64 (l 4), .int .i64 (l 5)]] w fun e w' => e = .returned (.bool true) ∧ Below w.heap.size w w' := by
  cases h : chkB k r s wi bu q qu t wo ws ti with
  | false => exact caps_no k r s wi bu q qu t wo ws ti l w h
  | true => exact caps_yes k r s wi bu q qu t wo ws ti l w h
end Go.Proofs.Yteepdknnmdhckaa
