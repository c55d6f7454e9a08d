/-
  Datagrams: the document's answer: the datagram of bytes (chapter 10).
-/
import Derived.Test.YtphejbjbleeigaaRr3
namespace Go.Proofs.Ytphejbjbleeigaa
open Go.RowKit
set_option linter.unusedVariables false
set_option maxRecDepth 100000
set_option maxHeartbeats 1000000
theorem be_unbe4 {c : List UInt8} (h : c.length = 4) : be (unbe c) 4 = c := by
  exact be_unbe 4 c h
theorem rread_badmagic (l b c : List UInt8) (h12 : ¬ l.length < 12) (hC : Cutd l b c) (hs : unbe c = (crcS b : Nat)) (x0 x1 : UInt8) (hx3 : (⟨l.toArray⟩ : ByteArray).extract 0 2 = ⟨[x0, x1].toArray⟩) (hm : [x0, x1] ≠ [76, 83]) (w : World) : Calls Try.prog 23 #[Str l] w (RetB (.tuple #[zdg, .int .i64 5]) w) := by
  have hm1 : (ByteArray.toList ⟨[x0, x1].toArray⟩ == ByteArray.toList ⟨#[76, 83]⟩) = false := by rw [show (⟨#[76, 83]⟩ : ByteArray) = ⟨[76, 83].toArray⟩ from rfl, str_beq]; simpa using hm
  have hm2 : ([x0, x1] == [76, 83]) = false := by simpa using hm
  have hm3 : ¬ ([x0, x1] = [76, 83]) := hm
  obtain ⟨hl, hbl, hcl, hx1, hx2⟩ := hC
  have h4 : (4 : Int) ≤ l.length := by omega
  have hn4 : (l.length : Int) - 4 = (b.length : Int) := by omega
  have h5 : (b.length : Int) ≤ l.length := by omega
  have h6 : b.length ≤ l.length := by omega
  have hi2 : (2 : Int) < l.length := by omega
  have hi3 : (3 : Int) < l.length := by omega
  have hi4 : (4 : Int) ≤ b.length := by omega
  have hi5 : (2 : Int) ≤ l.length := by omega
  rw [← hbl] at hx1 hx2
  clear hbl
  have hl2 : b.length ≤ 9223372036854775807 := by omega
  have hcr := crcS_lt b
  have HNm := Lib.hid (fun w => rnum_dg (crcS b : Nat) 4 (by omega) (by omega) w)
  have P4c : putS (crcS b : Nat) 4 = be (crcS b : Nat) 4 := putS_ok (crcS b : Nat) 4 (by omega) (by omega) (by omega)
  have P5c : be (crcS b : Nat) 4 = c := by rw [← hs]; exact be_unbe4 hcl
  rw [P4c, P5c] at HNm
  clear P4c P5c hs
  have HSm : Hid (∀ w, Calls Try.prog 60 #[Str b] w (RetB (.int .u32 (crcS b : Nat)) w)) := Lib.hid (fun w => (rsum_crc b hl2 w).mono fun e w' h => ⟨h.1, by rw [← h.2]; exact Below.refl _ _⟩)
  have hwc : IntKind.i64.wrap ((crcS b : Nat) : Int) = ((crcS b : Nat) : Int) := by rw [IntWalk.i64_in _ (by omega)]
  generalize (crcS b : Nat) = s at *
  have k0 := Blk.new w #[.int .i64 0, .int .i64 0, .int .u32 0, .int .i64 0, .int .i64 0, .int .i64 0, .int .i64 0, .int .i64 0, .string ⟨#[]⟩, .string ⟨#[]⟩] 24
  have hB := Below.chainAlloc (Below.refl w.heap.size w) (.cells #[.int .i64 0, .int .i64 0, .int .u32 0, .int .i64 0, .int .i64 0, .int .i64 0, .int .i64 0, .int .i64 0, .string ⟨#[]⟩, .string ⟨#[]⟩] 24)
  have HK0 := Lib.hid k0
  have HB0 := Lib.hid hB
  clear k0 hB
  go_enter Try.func23, Try.ntmps23
  go_upto_region 4 with fail
  generalize (w.alloc (.cells #[.int .i64 0, .int .i64 0, .int .u32 0, .int .i64 0, .int .i64 0, .int .i64 0, .int .i64 0, .int .i64 0, .string ⟨#[]⟩, .string ⟨#[]⟩] 24)) = w1 at *
  have HMK := Lib.hid (fun (w' : World) (h : Below w1.heap.size w1 w') => h)
  go_region_held3 (fun w' => Below w1.heap.size w1 w')
    (first
      | exact HMK.out _ (Below.refl _ _).drew
      | exact HMK.out _ (Below.refl _ _)
      | assumption
      | (go_split_ands; exact HMK.out _ (Below.chain hb (by assumption)))
      | (go_split_ands; assumption))
    (first
      | (go_at_call 60; refine (HSm.out _).mono ?_; rintro x w4 ⟨rfl, hb⟩)
      | (go_at_call 59; refine (HNm.out _).mono ?_; rintro x w4 ⟨rfl, hb⟩))
  rename_i hHeld
  have k1 := HK0.out.below hHeld HK0.out.lt
  have hB := Below.chain hHeld HB0.out
  clear hHeld HMK HK0 HB0 HSm HNm hx1 hx2
  obtain ⟨c2, f2, l2⟩ := k1.facts
  go_wp2_with fail
  exact read_end rfl (cells10 _ _ _ _ _ _ _ _ _ _ k1) (below10 _ _ _ _ _ _ _ _ _ _ hB (Nat.le_refl _)) rfl rfl rfl rfl
theorem rread_main (l b c : List UInt8) (h12 : ¬ l.length < 12) (hC : Cutd l b c) (hs : unbe c = (crcS b : Nat)) (x2 x3 : UInt8) (XR r : List UInt8) (hx3 : (⟨l.toArray⟩ : ByteArray).extract 0 2 = ⟨#[76, 83]⟩) (hx4 : (⟨l.toArray⟩ : ByteArray).extract 4 b.length = ⟨XR.toArray⟩) (hg2 : l[2]? = some x2) (hg3 : l[3]? = some x3)
    (kind stream block : Int) (hk : (x2.toNat : Int) = kind) (hst : (x3.toNat : Int) = stream)
    (HN : ∀ w, Calls Try.prog 68 #[.agg #[Str XR, .int .i64 0], .int .i64 4] w (RetB (.tuple #[.agg #[Str r, .int .i64 0], .int .u32 block]) w))
    (Y d' : Dg) (EE q : Int) (z : List UInt8)
    (HF : ∀ w, Calls Try.prog 69 #[.agg #[Str r, .int .i64 0], (hd0 kind stream block).val] w (FldR z q (Dg.val d') w))
    (HK : kind < 1 ∨ 6 < kind → EE = 1 ∧ Y = dg0) (HQ : ¬ (kind < 1 ∨ 6 < kind) → q ≠ 0 → EE = q ∧ Y = dg0) (HZ : ¬ (kind < 1 ∨ 6 < kind) → q = 0 → z ≠ [] → EE = 5 ∧ Y = dg0) (HE : ¬ (kind < 1 ∨ 6 < kind) → q = 0 → z = [] → EE = dgE d' ∧ (Y = if dgE d' = 0 then d' else dg0))
    (HLn : q = 0 → d'.have'.length ≤ 9223372036854775807 ∧ d'.body.length ≤ 9223372036854775807) (w : World) : Calls Try.prog 23 #[Str l] w (RetB (.tuple #[Y.val, .int .i64 EE]) w) := by
  have HN' := Lib.hid HN
  have HF' := Lib.hid HF
  have HK' := Lib.hid HK
  have HQ' := Lib.hid HQ
  have HZ' := Lib.hid HZ
  have HE' := Lib.hid HE
  have HLn' := Lib.hid HLn
  have hgt2 := x2.toNat_lt
  have hgt3 := x3.toNat_lt
  have hw2 : IntKind.i64.wrap (x2.toNat : Int) = x2.toNat := by rw [IntWalk.i64_in _ (by omega)]
  have hw3 : IntKind.i64.wrap (x3.toNat : Int) = x3.toNat := by rw [IntWalk.i64_in _ (by omega)]
  have ha2 : ∀ h, (⟨l.toArray⟩ : ByteArray)[2]'h = x2 := fun h => by
    have e := hg2
    rw [List.getElem?_eq_getElem (by have : ByteArray.size ⟨l.toArray⟩ = l.length := rfl; omega)] at e
    injection e with e
  have ha3 : ∀ h, (⟨l.toArray⟩ : ByteArray)[3]'h = x3 := fun h => by
    have e := hg3
    rw [List.getElem?_eq_getElem (by have : ByteArray.size ⟨l.toArray⟩ = l.length := rfl; omega)] at e
    injection e with e
  clear hg2 hg3
  clear HN HF HK HQ HZ HE HLn
  obtain ⟨hl, hbl, hcl, hx1, hx2⟩ := hC
  have h4 : (4 : Int) ≤ l.length := by omega
  have hn4 : (l.length : Int) - 4 = (b.length : Int) := by omega
  have h5 : (b.length : Int) ≤ l.length := by omega
  have h6 : b.length ≤ l.length := by omega
  have hi2 : (2 : Int) < l.length := by omega
  have hi3 : (3 : Int) < l.length := by omega
  have hi4 : (4 : Int) ≤ b.length := by omega
  have hi5 : (2 : Int) ≤ l.length := by omega
  rw [← hbl] at hx1 hx2
  clear hbl
  have hl2 : b.length ≤ 9223372036854775807 := by omega
  have hcr := crcS_lt b
  have HNm := Lib.hid (fun w => rnum_dg (crcS b : Nat) 4 (by omega) (by omega) w)
  have P4c : putS (crcS b : Nat) 4 = be (crcS b : Nat) 4 := putS_ok (crcS b : Nat) 4 (by omega) (by omega) (by omega)
  have P5c : be (crcS b : Nat) 4 = c := by rw [← hs]; exact be_unbe4 hcl
  rw [P4c, P5c] at HNm
  clear P4c P5c hs
  have HSm : Hid (∀ w, Calls Try.prog 60 #[Str b] w (RetB (.int .u32 (crcS b : Nat)) w)) := Lib.hid (fun w => (rsum_crc b hl2 w).mono fun e w' h => ⟨h.1, by rw [← h.2]; exact Below.refl _ _⟩)
  have hwc : IntKind.i64.wrap ((crcS b : Nat) : Int) = ((crcS b : Nat) : Int) := by rw [IntWalk.i64_in _ (by omega)]
  generalize (crcS b : Nat) = s at *
  have k0 := Blk.new w #[.int .i64 0, .int .i64 0, .int .u32 0, .int .i64 0, .int .i64 0, .int .i64 0, .int .i64 0, .int .i64 0, .string ⟨#[]⟩, .string ⟨#[]⟩] 24
  have hB := Below.chainAlloc (Below.refl w.heap.size w) (.cells #[.int .i64 0, .int .i64 0, .int .u32 0, .int .i64 0, .int .i64 0, .int .i64 0, .int .i64 0, .int .i64 0, .string ⟨#[]⟩, .string ⟨#[]⟩] 24)
  have HK0 := Lib.hid k0
  have HB0 := Lib.hid hB
  clear k0 hB
  go_enter Try.func23, Try.ntmps23
  go_upto_region 4 with fail
  generalize (w.alloc (.cells #[.int .i64 0, .int .i64 0, .int .u32 0, .int .i64 0, .int .i64 0, .int .i64 0, .int .i64 0, .int .i64 0, .string ⟨#[]⟩, .string ⟨#[]⟩] 24)) = w1 at *
  have HMK := Lib.hid (fun (w' : World) (h : Below w1.heap.size w1 w') => h)
  go_region_held3 (fun w' => Below w1.heap.size w1 w')
    (first
      | exact HMK.out _ (Below.refl _ _).drew
      | exact HMK.out _ (Below.refl _ _)
      | assumption
      | (go_split_ands; exact HMK.out _ (Below.chain hb (by assumption)))
      | (go_split_ands; assumption))
    (first
      | (go_at_call 60; refine (HSm.out _).mono ?_; rintro x w4 ⟨rfl, hb⟩)
      | (go_at_call 59; refine (HNm.out _).mono ?_; rintro x w4 ⟨rfl, hb⟩))
  rename_i hHeld
  have k1 := HK0.out.below hHeld HK0.out.lt
  have hB := Below.chain hHeld HB0.out
  clear hHeld HMK HK0 HB0 HSm HNm hx1 hx2
  obtain ⟨c2, f2, l2⟩ := k1.facts
  go_upto_region 8 with fail
  generalize w4 = WW at *
  go_region
  clear c2 f2
  have k5 := (Blk.new WW #[.int .i64 kind, .int .i64 stream, .int .u32 0, .int .i64 0, .int .i64 0, .int .i64 0, .int .i64 0, .int .i64 0, .string ⟨#[]⟩, .string ⟨#[]⟩] 24).drew
  have k2 := (k1.alloc (.cells #[.int .i64 kind, .int .i64 stream, .int .u32 0, .int .i64 0, .int .i64 0, .int .i64 0, .int .i64 0, .int .i64 0, .string ⟨#[]⟩, .string ⟨#[]⟩] 24)).drew
  have hB2 := (Below.chainAlloc hB (.cells #[.int .i64 kind, .int .i64 stream, .int .u32 0, .int .i64 0, .int .i64 0, .int .i64 0, .int .i64 0, .int .i64 0, .string ⟨#[]⟩, .string ⟨#[]⟩] 24)).drew
  have hlt := k1.lt
  clear k1 hB hb
  generalize hG : WW.heap.size = G at *
  generalize (WW.alloc (.cells #[.int .i64 kind, .int .i64 stream, .int .u32 0, .int .i64 0, .int .i64 0, .int .i64 0, .int .i64 0, .int .i64 0, .string ⟨#[]⟩, .string ⟨#[]⟩] 24)).drew = W4 at *
  clear hG
  go_wp2_with fail
  refine (HN'.out _).mono ?_
  rintro e w5 ⟨rfl, hb⟩
  have k25 := k2.below hb k2.lt
  have k55 := k5.below hb k5.lt
  have hB5 := Below.chain hb hB2
  clear hb k2 k5 hB2 HN' hx3 hx4 ha2 ha3 hgt2 hgt3 hw2 hw3
  obtain ⟨c2, f2, l2'⟩ := k55.facts
  go_upto_region 11 with fail
  have hG5 := k55.lt
  have k56 := (k55.setAt (cs' := #[.int .i64 kind, .int .i64 stream, .int .u32 block, .int .i64 0, .int .i64 0, .int .i64 0, .int .i64 0, .int .i64 0, .string ⟨#[]⟩, .string ⟨#[]⟩]) 2 (.int .u32 block) (by simp)).alloc (.cells #[Str r, .int .i64 0] 124)
  have k26 := (oth1 k25 G 2 (.int .u32 block) (by omega)).alloc (.cells #[Str r, .int .i64 0] 124)
  have hB6 := Below.chainAlloc (bel1 hB5 G 2 (.int .u32 block) (by omega)) (.cells #[Str r, .int .i64 0] 124)
  have k66 := Blk.newAt (n := w5.heap.size) (w := w5.setCell ⟨G, 2, none⟩ (.int .u32 block)) (cs := #[Str r, .int .i64 0]) (t := 124) (by simp)
  clear k55 k25 hB5 c2 f2 l2'
  generalize ((w5.setCell ⟨G, 2, none⟩ (.int .u32 block)).alloc (.cells #[Str r, .int .i64 0] 124)) = W6 at *
  generalize w5.heap.size = G6 at *
  obtain ⟨c2, f2, l2'⟩ := k26.facts
  obtain ⟨c5, f5, l5⟩ := k56.facts
  by_cases hbad : kind < 1 ∨ 6 < kind
  · obtain ⟨rfl, rfl⟩ := HK'.out hbad
    clear HQ' HZ' HE' HLn' HF' HK'
    by_cases hk1 : kind < 1
    · have d1 : decide (kind < 1) = true := by simpa using hk1
      clear hbad
      go_wp2_with fail
      exact read_end rfl (cells10 _ _ _ _ _ _ _ _ _ _ k26) (below10 _ _ _ _ _ _ _ _ _ _ hB6 (Nat.le_refl _)) rfl rfl rfl rfl
    · have d1 : decide (kind < 1) = false := by simpa using hk1
      have d2 : decide (6 < kind) = true := by simp; omega
      clear hbad hk1
      go_wp2_with fail
      exact read_end rfl (cells10 _ _ _ _ _ _ _ _ _ _ k26) (below10 _ _ _ _ _ _ _ _ _ _ hB6 (Nat.le_refl _)) rfl rfl rfl rfl
  · have hQ := Lib.hid (HQ'.out hbad)
    have hZ := Lib.hid (HZ'.out hbad)
    have hE := Lib.hid (HE'.out hbad)
    clear HK' HQ' HZ' HE'
    have d1 : decide (kind < 1) = false := by simp; omega
    have d2 : decide (6 < kind) = false := by simp; omega
    clear hbad
    obtain ⟨a0, a1, a2, a3, a4, a5, a6, a7, a8, a9⟩ := d'
    have HCk : Hid (q = 0 → ∀ w, Calls Try.prog 20 #[.agg #[.int .i64 a0, .int .i64 a1, .int .u32 a2, .int .i64 a3, .int .i64 a4, .int .i64 a5, .int .i64 a6, .int .i64 a7, Str a8, Str a9]] w (RetB (.int .i64 (dgE ⟨a0, a1, a2, a3, a4, a5, a6, a7, a8, a9⟩)) w)) := Lib.hid (fun h w => rchk_dg ⟨a0, a1, a2, a3, a4, a5, a6, a7, a8, a9⟩ (HLn'.out h).1 (HLn'.out h).2 w)
    generalize dgE ⟨a0, a1, a2, a3, a4, a5, a6, a7, a8, a9⟩ = E at *
    have HF2 : Hid (∀ w, Calls Try.prog 69 #[.agg #[Str r, .int .i64 0], .agg #[.int .i64 kind, .int .i64 stream, .int .u32 block, .int .i64 0, .int .i64 0, .int .i64 0, .int .i64 0, .int .i64 0, .string ⟨#[]⟩, .string ⟨#[]⟩]] w (FldR z q (.agg #[.int .i64 a0, .int .i64 a1, .int .u32 a2, .int .i64 a3, .int .i64 a4, .int .i64 a5, .int .i64 a6, .int .i64 a7, Str a8, Str a9]) w)) := Lib.hid (fun w => HF'.out w)
    obtain ⟨c6, f6, l6⟩ := k66.facts
    clear HF' HLn'
    go_wp2_with fail
    refine (HF2.out _).mono ?_
    rintro e w7 ⟨rfl, hb⟩
    have k27 := k26.below hb k26.lt
    have k57 := k56.below hb k56.lt
    have k67 := k66.below hb k66.lt
    have hB7 := Below.chain hb hB6
    clear hb k26 k56 k66 hB6 c2 f2 l2' c5 f5 c6 f6 HF2
    have h26 : ¬ w.heap.size = G6 := by omega
    have h56 : ¬ G = G6 := by omega
    have h65 : ¬ G6 = G := by omega
    obtain ⟨c5, f5, l5'⟩ := k57.facts
    obtain ⟨c6, f6, l6'⟩ := k67.facts
    go_upto_region 14 with fail
    have k28 := oth10 (g := G) (oth2 (g := G6) k27 (Str z) (.int .i64 q) (by omega)) (.int .i64 a0) (.int .i64 a1) (.int .u32 a2) (.int .i64 a3) (.int .i64 a4) (.int .i64 a5) (.int .i64 a6) (.int .i64 a7) (Str a8) (Str a9) (by omega)
    have k58 := upd10 (oth2 (g := G6) k57 (Str z) (.int .i64 q) (by omega)) (.int .i64 a0) (.int .i64 a1) (.int .u32 a2) (.int .i64 a3) (.int .i64 a4) (.int .i64 a5) (.int .i64 a6) (.int .i64 a7) (Str a8) (Str a9)
    have k68 := oth10 (g := G) (upd2 k67 (Str z) (.int .i64 q)) (.int .i64 a0) (.int .i64 a1) (.int .u32 a2) (.int .i64 a3) (.int .i64 a4) (.int .i64 a5) (.int .i64 a6) (.int .i64 a7) (Str a8) (Str a9) (by omega)
    have hB8 := bel10 (g := G) (bel2 (g := G6) hB7 (Str z) (.int .i64 q) (by omega)) (.int .i64 a0) (.int .i64 a1) (.int .u32 a2) (.int .i64 a3) (.int .i64 a4) (.int .i64 a5) (.int .i64 a6) (.int .i64 a7) (Str a8) (Str a9) (by omega)
    clear k27 k57 k67 hB7 c5 f5 c6 f6
    unfold set10 at k28 k58 k68 hB8
    generalize ((((((((((((w7.setCell ⟨G6, 0, none⟩ (Str z)).setCell ⟨G6, 1, none⟩ (.int .i64 q)).setCell ⟨G, 0, none⟩ (.int .i64 a0)).setCell ⟨G, 1, none⟩ (.int .i64 a1)).setCell ⟨G, 2, none⟩ (.int .u32 a2)).setCell ⟨G, 3, none⟩ (.int .i64 a3)).setCell ⟨G, 4, none⟩ (.int .i64 a4)).setCell ⟨G, 5, none⟩ (.int .i64 a5)).setCell ⟨G, 6, none⟩ (.int .i64 a6)).setCell ⟨G, 7, none⟩ (.int .i64 a7)).setCell ⟨G, 8, none⟩ (Str a8)).setCell ⟨G, 9, none⟩ (Str a9)) = W8 at *
    obtain ⟨c2, f2, l2''⟩ := k28.facts
    obtain ⟨c5, f5, l5''⟩ := k58.facts
    obtain ⟨c6, f6, l6''⟩ := k68.facts
    by_cases hq : q = 0
    · subst hq
      by_cases hz : z = []
      · subst hz
        obtain ⟨rfl, hY⟩ := hE.out rfl rfl
        have HY := Lib.hid hY
        clear hY hE hZ hQ
        go_wp2_with fail
        refine (HCk.out trivial _).mono ?_
        rintro e w9 ⟨rfl, hb⟩
        have k29 := k28.below hb k28.lt
        have k59 := k58.below hb k58.lt
        have hB9 := Below.chain hb hB8
        clear hb k28 k58 k68 hB8 c2 f2 c5 f5 c6 f6 HCk
        obtain ⟨c2, f2, l2x⟩ := k29.facts
        obtain ⟨c5, f5, l5x⟩ := k59.facts
        by_cases he : EE = 0
        · subst he
          have hY := HY.out
          rw [if_pos rfl] at hY
          subst hY
          clear HY
          go_wp2_with fail
          exact read_end rfl (cells10 _ _ _ _ _ _ _ _ _ _ k29) (below10 _ _ _ _ _ _ _ _ _ _ hB9 (Nat.le_refl _)) rfl rfl rfl rfl
        · have hY := HY.out
          rw [if_neg he] at hY
          subst hY
          have hd : (EE != 0) = true := by simpa using he
          clear HY he
          go_wp2_with fail
          exact read_end rfl (cells10 _ _ _ _ _ _ _ _ _ _ k29) (below10 _ _ _ _ _ _ _ _ _ _ hB9 (Nat.le_refl _)) rfl rfl rfl rfl
      · obtain ⟨rfl, rfl⟩ := hZ.out rfl hz
        obtain ⟨x0, t0, rfl⟩ : ∃ x t, z = x :: t := by
          cases z with
          | nil => exact absurd rfl hz
          | cons x t => exact ⟨x, t, rfl⟩
        clear hz hE hZ hQ HCk
        go_wp2_with fail
        exact read_end rfl (cells10 _ _ _ _ _ _ _ _ _ _ k28) (below10 _ _ _ _ _ _ _ _ _ _ hB8 (Nat.le_refl _)) rfl rfl rfl rfl
    · obtain ⟨rfl, rfl⟩ := hQ.out hq
      have hd : (EE != 0) = true := by simpa using hq
      clear hq hE hZ hQ HCk
      go_upto_region 15 with fail
      go_region
      go_wp2_with fail
      exact read_end rfl (cells10 _ _ _ _ _ _ _ _ _ _ k28).drew (below10 _ _ _ _ _ _ _ _ _ _ hB8 (Nat.le_refl _)).drew rfl rfl rfl rfl
end Go.Proofs.Ytphejbjbleeigaa
