/-
  Timers: the program's and the document's side by side (chapter 13).
-/
import Derived.Test.YtphejbjbleeigaaTm10
import Derived.Test.YtphejbjbleeigaaTm11
import Derived.Test.YtphejbjbleeigaaFlat
namespace Go.Proofs.Ytphejbjbleeigaa
open Go Go.RowKit
set_option linter.unusedVariables false
set_option maxRecDepth 100000
set_option maxHeartbeats 4000000
open Go.ChangeShapes Go.WideShapes Go.ChangeAt
/-- The program's timers ds, the document's list xs, apart, behind w0's memory. -/
structure T13 (w0 : World) (bt bm : Nat) (xv : Value) (xs ds : List Du) (w : World) : Prop where
  t : Tms w bt bm ds
  s : Seg w w0.heap.size 96 3 xv xs.length (duS xs)
  ne : ∀ g, xv.ownBlock = some g → g ≠ bt ∧ g ≠ bm
  b : Below w0.heap.size w0 w
  h1 : w0.heap.size ≤ bt
  h2 : w0.heap.size ≤ bm
  r : TR ds xs
section
variable {w0 w w' : World} {bt bm : Nat} {xv xv' : Value} {xs xs' ds ds' : List Du}
theorem T13.chain (h : T13 w0 bt bm xv xs ds w) (hb : Below w.heap.size w w') : T13 w0 bt bm xv xs ds w' :=
  ⟨h.t.chain hb, h.s.chain hb, h.ne, Below.chain hb h.b, h.h1, h.h2, h.r⟩
/-- Both have turned: the document's list is a new one. -/
theorem T13.both (h : T13 w0 bt bm xv xs ds w) {w1 w2 : World} (hb : Below w.heap.size w w1) (hs : Seg w1 w.heap.size 96 3 xv' xs'.length (duS xs')) (ht : Tms w2 bt bm ds') (ho : Only [bm] w1 w2) (hr : TR ds' xs') : T13 w0 bt bm xv' xs' ds' w2 := by
  have hne : ∀ g, xv'.ownBlock = some g → g ≠ bt ∧ g ≠ bm := fun g hg => by
    have := (hs.blk g hg).1
    have := h.t.b.lt
    have := h.t.m.lt
    exact ⟨by omega, by omega⟩
  exact ⟨ht, (hs.le h.b.size).only ho (fun g hg => by simp [(hne g hg).2]), hne, Below.only (Below.chain hb h.b) ho (by simp [h.h2]), h.h1, h.h2, hr⟩
/-- The document's list lies in the same block as before. -/
theorem T13.same (h : T13 w0 bt bm xv xs ds w) {w1 w2 : World} (hb : Below w.heap.size w w1) (hs : Seg w1 w0.heap.size 96 3 xv' xs'.length (duS xs')) (he : xv'.ownBlock = xv.ownBlock) (ht : Tms w2 bt bm ds') (ho : Only [bm] w1 w2) (hr : TR ds' xs') : T13 w0 bt bm xv' xs' ds' w2 := by
  have hne : ∀ g, xv'.ownBlock = some g → g ≠ bt ∧ g ≠ bm := fun g hg => h.ne g (he ▸ hg)
  exact ⟨ht, hs.only ho (fun g hg => by simp [(hne g hg).2]), hne, Below.only (Below.chain hb h.b) ho (by simp [h.h2]), h.h1, h.h2, hr⟩
end
structure TD where
  kind : Int
  d : Du
def TD.cells (c : TD) : List Value := [.int .i64 c.kind, .int .i64 c.d.s, .int .u32 c.d.b, .int .i64 c.d.at_]
theorem open_td {H : Type} {enc : TypeId × Value → H} {W : World} {b : Nat} {sp : Nat → Bool} {hd : Bool} {a : Option Addr} {len cap : Nat} {d : DataW H} {p : List MemPlace}
    (h : DataW.Trod enc Try.prog W b sp hd 85 (.slice a len cap) d p) : ∃ ds : List TD, IsRows 4 TD.cells W a len cap ds := by
  obtain ⟨ds, h1, _⟩ := open_rows 4 TD.cells (fun _ => True) Try.underlying85 (by kernel_rfl) (by decide) h fun cs m x hx => by
    have := flat_fits 9 m 90 [.int .i64, .int .i64, .int .u32, .int .i64] cs x (by kernel_rfl) hx
    obtain ⟨_, _, rfl, ⟨k, rfl, wk⟩, _, _, rfl, ⟨z0, rfl, w0⟩, _, _, rfl, ⟨z1, rfl, w1⟩, _, _, rfl, ⟨z2, rfl, w2⟩, rfl⟩ := this
    exact ⟨⟨k, ⟨z0, z1, z2⟩⟩, rfl, trivial⟩
  exact ⟨ds, h1⟩
theorem IsRows.get {α : Type} {size : Nat} {encd : α → List Value} {w : World} {a : Option Addr} {len cap : Nat} {ds : List α} (h : IsRows size encd w a len cap ds) (k : Nat) (hk : k < len) :
    ∃ (g off : Nat) (hk' : k < ds.length), a = some ⟨g, off, none⟩ ∧ g < w.heap.size ∧ ∀ j, j < size → w.cell? ⟨g, off + k * size + j, none⟩ = (encd ds[k])[j]? := by
  obtain ⟨h1, _, _, h4⟩ := h
  obtain ⟨g, off, ha, hg, hc⟩ := h4.resolve_left (by omega)
  exact ⟨g, off, by omega, ha, hg, fun j hj => hc k (by omega) j hj⟩
/-- What the law's step leaves: the lists turned alike. -/
def DoPost (w0 : World) (bt bm : Nat) (xs ds : List Du) (e : Ending) (w' : World) : Prop :=
  ∃ (xv' : Value) (xs' ds' : List Du), e = .returned (.tuple #[xv', .bool true]) ∧ T13 w0 bt bm xv' xs' ds' w' ∧ xs'.length ≤ xs.length + 1
theorem do13_any (c : TD) (w0 : World) (bt bm : Nat) (xv : Value) (xs ds : List Du) (w : World) (h : T13 w0 bt bm xv xs ds w) (hl : xs.length ≤ 900) :
    Calls Try.prog 51 #[.pointer (some ⟨bt, 0, none⟩), xv, .agg #[.int .i64 c.kind, .int .i64 c.d.s, .int .u32 c.d.b, .int .i64 c.d.at_]] w (DoPost w0 bt bm xs ds) := by
  obtain ⟨kd, ⟨a, b, z⟩⟩ := c
  obtain ⟨ax, cx, rfl⟩ := h.s.form
  have hB := Below.chainAlloc (Below.refl _ w) (.cells #[.int .i64 kd, .int .i64 a, .int .u32 b, .int .i64 z] 90)
  have hkb := Blk.new w #[.int .i64 kd, .int .i64 a, .int .u32 b, .int .i64 z] 90
  have hT := h.chain hB
  obtain ⟨W, hW⟩ : ∃ W, w.alloc (.cells #[.int .i64 kd, .int .i64 a, .int .u32 b, .int .i64 z] 90) = W := ⟨_, rfl⟩
  rw [hW] at hB hkb hT
  obtain ⟨bx, hbx⟩ : ∃ bx, w.heap.size = bx := ⟨_, rfl⟩
  rw [hbx] at hkb
  have e0 := hkb.facts.1 0
  have e1 := hkb.facts.1 1
  have e2 := hkb.facts.1 2
  have e3 := hkb.facts.1 3
  have HW := Lib.hid hW
  have HBX := Lib.hid hbx
  have HK := Lib.hid hkb
  have HT := Lib.hid hT
  clear hB hkb hT hW hbx h
  dsimp only
  by_cases h0 : kd = 0
  · subst h0
    by_cases hz : 0 ≤ z ∧ z ≤ 1099511627776
    · have HR := Lib.hid (rset13_ok ⟨a, b, z⟩ _ _ xs W HT.out.s hl hz.1 hz.2)
      unfold encK Du.key at HR
      dsimp only at HR
      have HTR := Lib.hid (HT.out.r.set ⟨a, b, z⟩ hz)
      have HP : Hid (∀ w', Tms w' bt bm ds → Calls Try.prog 46 #[.pointer (some ⟨bt, 0, none⟩), .agg #[.int .i64 a, .int .u32 b], .int .i64 z] w' (TmPost (.int .i64 0) bt bm (setD ⟨a, b, z⟩ ds) w')) := Lib.hid (fun w' h => tset_ok ⟨a, b, z⟩ bt bm ds w' h hz.1 hz.2)
      have HL : Hid ((insD ⟨a, b, z⟩ (dropD (a, b) xs)).length ≤ xs.length + 1) := Lib.hid (by
        rw [insD_perm.length_eq, List.length_cons]
        have := dropD_le (a, b) xs
        omega)
      go_enter Try.func51, Try.ntmps51
      go_upto_region 3 with fail
      rw [HW.out, HBX.out]
      go_wp2_with fail
      refine HR.out.mono ?_
      rintro e w1 ⟨xv', rfl, hs, hb⟩
      have k1 := HK.out.below hb HK.out.lt
      have e1 := k1.facts.1 1
      have e2 := k1.facts.1 2
      have e3 := k1.facts.1 3
      have HS1 := Lib.hid hs
      have HB1 := Lib.hid hb
      obtain ⟨av, cv, rfl⟩ := hs.form
      clear hs hb k1
      go_wp2_with fail
      refine (HP.out _ (HT.out.t.chain HB1.out)).mono ?_
      rintro e w2 ⟨rfl, ht, ho⟩
      have HT2 := Lib.hid (HT.out.both HB1.out HS1.out ht ho HTR.out)
      clear ht ho
      go_wp2_with fail
      go_ret2
      exact ⟨_, _, _, rfl, HT2.out, HL.out⟩
    · have hz' : z < 0 ∨ 1099511627776 < z := by omega
      have HR := Lib.hid (rset13_bad ⟨a, b, z⟩ ax xs.length cx W hz')
      unfold encK Du.key at HR
      dsimp only at HR
      have HP : Hid (∀ w', Calls Try.prog 46 #[.pointer (some ⟨bt, 0, none⟩), .agg #[.int .i64 a, .int .u32 b], .int .i64 z] w' fun e w2 => e = .returned (.int .i64 2) ∧ Below w'.heap.size w' w2) := Lib.hid (fun w' => tset_bad (a, b) z bt w' hz')
      clear hz hz'
      go_enter Try.func51, Try.ntmps51
      go_upto_region 3 with fail
      rw [HW.out, HBX.out]
      go_wp2_with fail
      refine HR.out.mono ?_
      rintro e w1 ⟨rfl, hb⟩
      have k1 := HK.out.below hb HK.out.lt
      have e1 := k1.facts.1 1
      have e2 := k1.facts.1 2
      have e3 := k1.facts.1 3
      have HT1 := Lib.hid (HT.out.chain hb)
      clear hb k1
      go_wp2_with fail
      refine (HP.out _).mono ?_
      rintro e w2 ⟨rfl, hb⟩
      have HT2 := Lib.hid (HT1.out.chain hb)
      clear hb
      go_wp2_with fail
      go_ret2
      exact ⟨_, _, _, rfl, HT2.out, Nat.le_succ _⟩
  · have h0b : (kd == 0) = false := beq_eq_false_iff_ne.2 h0
    by_cases h1 : kd = 1
    · subst h1
      have HR := Lib.hid (rdrop13_any (a, b) _ _ xs W HT.out.s (by omega))
      unfold encK at HR
      dsimp only at HR
      have HTR := Lib.hid (HT.out.r.drop (a, b))
      have HL := Lib.hid (dropD_le (a, b) xs)
      have HAT := Lib.hid (HT.out.r.at (a, b))
      have HP : Hid (∀ w', Tms w' bt bm ds → Calls Try.prog 53 #[.pointer (some ⟨bt, 0, none⟩), .agg #[.int .i64 a, .int .u32 b]] w' (TmPost (.bool (atD (a, b) xs).isSome) bt bm (dropD (a, b) ds) w')) := Lib.hid (fun w' h => by
        rw [← HAT.out]
        cases hk : atD (a, b) ds with
        | none => exact tdrop_no (a, b) bt bm ds w' h hk
        | some u => exact tdrop_yes (a, b) u bt bm ds w' h hk)
      unfold RDropPost at HR
      generalize (atD (a, b) xs).isSome = y at *
      go_enter Try.func51, Try.ntmps51
      go_upto_region 6 with fail
      rw [HW.out, HBX.out]
      go_wp2_with fail
      refine HR.out.mono ?_
      rintro e w1 ⟨xv', rfl, hs, hb⟩
      have k1 := HK.out.below hb HK.out.lt
      have e1 := k1.facts.1 1
      have e2 := k1.facts.1 2
      have HS1 := Lib.hid hs
      have HB1 := Lib.hid hb
      obtain ⟨av, cv, rfl⟩ := hs.form
      clear hs hb k1
      go_wp2_with fail
      refine (HP.out _ (HT.out.t.chain HB1.out)).mono ?_
      rintro e w2 ⟨rfl, ht, ho⟩
      have HT2 := Lib.hid (HT.out.both HB1.out HS1.out ht ho HTR.out)
      clear ht ho
      go_wp2_with fail
      go_ret2
      exact ⟨_, _, _, by simp, HT2.out, Nat.le_succ_of_le HL.out⟩
    · have h1b : (kd == 1) = false := beq_eq_false_iff_ne.2 h1
      have HR := Lib.hid (rdue13_any z _ _ xs W HT.out.s (by omega))
      have hdl : ds.length ≤ 1000 := by have := HT.out.r.len; omega
      have HP := Lib.hid (fun w' h => tdue_any z bt bm ds w' h hdl)
      have HTR := Lib.hid (HT.out.r.later z)
      have HL : Hid ((xs.dropWhile (dueB z)).length ≤ xs.length ∧ (xs.takeWhile (dueB z)).length ≤ xs.length) := Lib.hid ⟨(List.dropWhile_sublist _).length_le, (List.takeWhile_sublist _).length_le⟩
      clear hdl
      go_enter Try.func51, Try.ntmps51
      go_upto_region 8 with fail
      rw [HW.out, HBX.out]
      go_wp2_with fail
      refine HR.out.mono ?_
      rintro e w1 ⟨v1, v2, rfl, hs1, hs2, ho1, ho2, hb⟩
      have k1 := HK.out.below hb HK.out.lt
      have e3 := k1.facts.1 3
      have HS1 := Lib.hid hs1
      have HS2 := Lib.hid hs2
      have HO1 := Lib.hid ho1
      have HO2 := Lib.hid ho2
      have HB1 := Lib.hid hb
      obtain ⟨a1, k1', rfl⟩ := hs1.form
      obtain ⟨a2, k2', rfl⟩ := hs2.form
      clear hs1 hs2 hb k1 ho1 ho2
      go_wp2_with fail
      refine (HP.out _ (HT.out.t.chain HB1.out)).mono ?_
      rintro e w2 ⟨v3, ys, rfl, hp, hsrt, hsg, ht, ho⟩
      have hy := HT.out.r.due hp hsrt
      subst hy
      have HT2 := Lib.hid (HT.out.same HB1.out HS2.out HO2.out ht ho HTR.out)
      have HSM := Lib.hid (rsame13_yes v3 _ _ _ (xs.takeWhile (dueB z)) w2 hsg (HS1.out.only ho (fun g hg => by
        have := HT.out.ne g (HO1.out ▸ hg)
        simp [this.2])) (by have := HL.out.2; omega))
      obtain ⟨a3, k3', rfl⟩ := hsg.form
      clear hp hsrt hsg ht ho
      go_wp2_with fail
      refine HSM.out.mono ?_
      rintro e w3 ⟨rfl, hb⟩
      have HT3 := Lib.hid (HT2.out.chain hb)
      clear hb
      go_wp2_with fail
      go_ret2
      exact ⟨_, _, _, rfl, HT3.out, Nat.le_succ_of_le HL.out.1⟩
end Go.Proofs.Ytphejbjbleeigaa
