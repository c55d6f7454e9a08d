/-
  A world that is made; how much there is on a side (chapter 32).
-/
import Derived.Test.YteepdknnmdhckaaCp4
namespace Go.Proofs.Yteepdknnmdhckaa
open Go Go.RowKit
set_option linter.unusedVariables false
set_option linter.unusedSimpArgs false
set_option maxRecDepth 100000
set_option maxHeartbeats 2000000
/-- A world that is being made: k sides are there. -/
def PW (bw : Nat) : Nat → World → Prop
  | 0, w => Blk w bw #[.pointer none, .pointer none, .map none, .slice none 0 0, .pointer none, .pointer none, .map none, .slice none 0 0, .int .i64 0, .int .i64 0, .slice none 0 0, .slice none 0 0, .int .i64 0] 48
  | 1, w => ∃ e0 n0 m0 b0 t0 j0 c0, Blk w bw #[ptr e0, ptr n0, .map (some m0), .slice none 0 0, .pointer none, .pointer none, .map none, .slice none 0 0, .int .i64 0, .int .i64 0, .slice none 0 0, .slice none 0 0, .int .i64 0] 48 ∧ EndN b0 w e0 t0 j0 c0 ∧ bw < b0
  | 2, w => ∃ e0 n0 m0 b0 t0 j0 c0 e1 n1 m1 b1 t1 j1 c1, Blk w bw #[ptr e0, ptr n0, .map (some m0), .slice none 0 0, ptr e1, ptr n1, .map (some m1), .slice none 0 0, .int .i64 0, .int .i64 0, .slice none 0 0, .slice none 0 0, .int .i64 0] 48 ∧ (EndN b0 w e0 t0 j0 c0 ∧ bw < b0) ∧ EndN b1 w e1 t1 j1 c1 ∧ bw < b1 ∧ t0 < b1
  | _, _ => False
theorem PW.below {bw : Nat} {w w' : World} (hb : Below w.heap.size w w') : ∀ {k : Nat}, PW bw k w → PW bw k w'
  | 0, h => Blk.below h hb (Blk.lt h)
  | 1, ⟨e0, n0, m0, b0, t0, j0, c0, h1, h2, h3⟩ => ⟨e0, n0, m0, b0, t0, j0, c0, h1.below hb h1.lt, h2.below hb, h3⟩
  | 2, ⟨e0, n0, m0, b0, t0, j0, c0, e1, n1, m1, b1, t1, j1, c1, h1, ⟨h2, h3⟩, h4, h5⟩ => ⟨e0, n0, m0, b0, t0, j0, c0, e1, n1, m1, b1, t1, j1, c1, h1.below hb h1.lt, ⟨h2.below hb, h3⟩, h4.below hb, h5⟩
  | _ + 3, h => h.elim
theorem PW.end0 {bw : Nat} {w : World} {e n m b t j c : Nat} (h : Blk w bw #[.pointer none, .pointer none, .map none, .slice none 0 0, .pointer none, .pointer none, .map none, .slice none 0 0, .int .i64 0, .int .i64 0, .slice none 0 0, .slice none 0 0, .int .i64 0] 48) (he : EndN b w e t j c) (hb : bw < b) : PW bw 1 ((((w.setCell ⟨bw, 0, none⟩ (ptr e)).setCell ⟨bw, 1, none⟩ (ptr n)).setCell ⟨bw, 2, none⟩ (.map (some m))).setCell ⟨bw, 3, none⟩ (.slice none 0 0)) := by
  have ho : Only [bw] w ((((w.setCell ⟨bw, 0, none⟩ (ptr e)).setCell ⟨bw, 1, none⟩ (ptr n)).setCell ⟨bw, 2, none⟩ (.map (some m))).setCell ⟨bw, 3, none⟩ (.slice none 0 0)) := ((((Only.refl _ _).setCell _ _ (.inl (by simp))).setCell _ _ (.inl (by simp))).setCell _ _ (.inl (by simp))).setCell _ _ (.inl (by simp))
  exact ⟨e, n, m, b, t, j, c, (((h.setAt 0 _ rfl).setAt 1 _ rfl).setAt 2 _ rfl).setAt 3 _ rfl, he.other ho hb, hb⟩
theorem PW.end1 {bw : Nat} {w : World} {e0 n0 m0 b0 t0 j0 c0 e n m b t j c : Nat} (h : Blk w bw #[ptr e0, ptr n0, .map (some m0), .slice none 0 0, .pointer none, .pointer none, .map none, .slice none 0 0, .int .i64 0, .int .i64 0, .slice none 0 0, .slice none 0 0, .int .i64 0] 48) (h0 : EndN b0 w e0 t0 j0 c0) (hb0 : bw < b0) (he : EndN b w e t j c) (hb : bw < b) (ht : t0 < b) : PW bw 2 ((((w.setCell ⟨bw, 4, none⟩ (ptr e)).setCell ⟨bw, 5, none⟩ (ptr n)).setCell ⟨bw, 6, none⟩ (.map (some m))).setCell ⟨bw, 7, none⟩ (.slice none 0 0)) := by
  have ho : Only [bw] w ((((w.setCell ⟨bw, 4, none⟩ (ptr e)).setCell ⟨bw, 5, none⟩ (ptr n)).setCell ⟨bw, 6, none⟩ (.map (some m))).setCell ⟨bw, 7, none⟩ (.slice none 0 0)) := ((((Only.refl _ _).setCell _ _ (.inl (by simp))).setCell _ _ (.inl (by simp))).setCell _ _ (.inl (by simp))).setCell _ _ (.inl (by simp))
  exact ⟨e0, n0, m0, b0, t0, j0, c0, e, n, m, b, t, j, c, (((h.setAt 4 _ rfl).setAt 5 _ rfl).setAt 6 _ rfl).setAt 7 _ rfl, ⟨h0.other ho hb0, hb0⟩, he.other ho hb, hb, ht⟩
theorem EndN.tlt {base be bt bj bc : Nat} {w : World} (h : EndN base w be bt bj bc) : bt < w.heap.size := by
  obtain ⟨b0, room, s, hlo, ht⟩ := h.t
  exact ht.h.tb.lt
theorem wnew_yes (k r s wi bu q qu t wo ws ti : Int) (w : World) (h : chkB k r s wi bu q qu t wo ws ti = true) : Calls Try.prog 15 #[.agg #[.int .i64 k, .int .i64 r, .int .i64 s, .int .i64 wi, .int .i64 bu, .int .i64 q, .int .i64 qu, .int .i64 t, .int .i64 wo, .int .i64 ws, .int .i64 ti]] w fun e w' => ∃ bw, e = .returned (.tuple #[ptr bw, .int .i64 0]) ∧ PW bw 2 w' ∧ Below w.heap.size w w' ∧ w.heap.size ≤ bw := by
  have HE : Hid (∀ w', Calls Try.prog 18 #[.agg #[.int .i64 k, .int .i64 r, .int .i64 s, .int .i64 wi, .int .i64 bu, .int .i64 q, .int .i64 qu, .int .i64 t, .int .i64 wo, .int .i64 ws, .int .i64 ti]] w' fun e w'' => ∃ be bt bj bc, e = .returned (.tuple #[.pointer (some ⟨be, 0, none⟩), .int .i64 0]) ∧ EndN w'.heap.size w'' be bt bj bc ∧ Below w'.heap.size w' w'') := Lib.hid fun w' => enew_yes k r s wi bu q qu t wo ws ti w' h
  have hmm : ∀ (w : World), (Instr.makeMap 42 none).run Try.prog w = .ok (.map (some w.heap.size)) (w.alloc (.map #[] 0)) := fun _ => rfl
  have ha := Below.chainAlloc (Below.chainAlloc (Below.refl _ w) (.cells #[.int .i64 k, .int .i64 r, .int .i64 s, .int .i64 wi, .int .i64 bu, .int .i64 q, .int .i64 qu, .int .i64 t, .int .i64 wo, .int .i64 ws, .int .i64 ti] 23)) (.cells #[.pointer none, .pointer none, .map none, .slice none 0 0, .pointer none, .pointer none, .map none, .slice none 0 0, .int .i64 0, .int .i64 0, .slice none 0 0, .slice none 0 0, .int .i64 0] 48)
  have HST : Hid (PW (w.heap.size + 1) 0 ((w.alloc (.cells #[.int .i64 k, .int .i64 r, .int .i64 s, .int .i64 wi, .int .i64 bu, .int .i64 q, .int .i64 qu, .int .i64 t, .int .i64 wo, .int .i64 ws, .int .i64 ti] 23)).alloc (.cells #[.pointer none, .pointer none, .map none, .slice none 0 0, .pointer none, .pointer none, .map none, .slice none 0 0, .int .i64 0, .int .i64 0, .slice none 0 0, .slice none 0 0, .int .i64 0] 48)) ∧ Blk ((w.alloc (.cells #[.int .i64 k, .int .i64 r, .int .i64 s, .int .i64 wi, .int .i64 bu, .int .i64 q, .int .i64 qu, .int .i64 t, .int .i64 wo, .int .i64 ws, .int .i64 ti] 23)).alloc (.cells #[.pointer none, .pointer none, .map none, .slice none 0 0, .pointer none, .pointer none, .map none, .slice none 0 0, .int .i64 0, .int .i64 0, .slice none 0 0, .slice none 0 0, .int .i64 0] 48)) w.heap.size #[.int .i64 k, .int .i64 r, .int .i64 s, .int .i64 wi, .int .i64 bu, .int .i64 q, .int .i64 qu, .int .i64 t, .int .i64 wo, .int .i64 ws, .int .i64 ti] 23 ∧ Below w.heap.size w ((w.alloc (.cells #[.int .i64 k, .int .i64 r, .int .i64 s, .int .i64 wi, .int .i64 bu, .int .i64 q, .int .i64 qu, .int .i64 t, .int .i64 wo, .int .i64 ws, .int .i64 ti] 23)).alloc (.cells #[.pointer none, .pointer none, .map none, .slice none 0 0, .pointer none, .pointer none, .map none, .slice none 0 0, .int .i64 0, .int .i64 0, .slice none 0 0, .slice none 0 0, .int .i64 0] 48))) := Lib.hid ⟨Blk.newAt (size_alloc _ _).symm, (Blk.new w _ _).alloc _, ha⟩
  clear h ha
  go_enter Try.func15, Try.ntmps15
  go_wp2_with fail
  obtain ⟨b, hb⟩ : ∃ b, w.heap.size = b := ⟨_, rfl⟩
  rw [hb] at HST ⊢
  have HB := Lib.hid hb
  clear hb
  go_loopg [12] 2 (fun gk i wr => ∃ sd : Nat, 2 - sd ≤ gk ∧ sd ≤ 2 ∧ i = .int .i64 (sd : Int) ∧ Hid (PW (b + 1) sd wr ∧ Blk wr b #[.int .i64 k, .int .i64 r, .int .i64 s, .int .i64 wi, .int .i64 bu, .int .i64 q, .int .i64 qu, .int .i64 t, .int .i64 wo, .int .i64 ws, .int .i64 ti] 23 ∧ Below b w wr))
  case atStart => exact ⟨0, by omega, by omega, rfl, HST⟩
  case round =>
    clear HST
    obtain ⟨sd, hkg, hk, rfl, HREL⟩ := hrel
    match sd, hk, HREL with
    | 0, _, HREL =>
      have kk := HREL.out.2.1
      have k0 := kk.facts.1 0
      have k1 := kk.facts.1 1
      have k2 := kk.facts.1 2
      have k3 := kk.facts.1 3
      have k4 := kk.facts.1 4
      have k5 := kk.facts.1 5
      have k6 := kk.facts.1 6
      have k7 := kk.facts.1 7
      have k8 := kk.facts.1 8
      have k9 := kk.facts.1 9
      have k10 := kk.facts.1 10
      clear kk
      go_wp2_with fail
      refine (HE.out wr).mono ?_
      rintro e w2 ⟨be, bt, bj, bc, rfl, hn, hb2⟩
      have H2 := Lib.hid (And.intro hn hb2)
      clear hn hb2 k0 k1 k2 k3 k4 k5 k6 k7 k8 k9 k10
      go_wp2_with fail
      refine (nnew0 4096 (by decide) (by decide) w2).mono ?_
      rintro e w3 ⟨rfl, rfl⟩
      have ha3 := Below.chainAlloc (Below.chainAlloc (Below.refl _ w2) (.cells #[.slice none 0 0, .int .i64 4096] 78)) (.map #[] 0)
      have hb4 := Below.chain ha3 H2.out.2
      have hz : Blk wr (b + 1) #[.pointer none, .pointer none, .map none, .slice none 0 0, .pointer none, .pointer none, .map none, .slice none 0 0, .int .i64 0, .int .i64 0, .slice none 0 0, .slice none 0 0, .int .i64 0] 48 := HREL.out.1
      have hw4 := hz.below hb4 hz.lt
      have HN4 := Lib.hid (And.intro (H2.out.1.below ha3) (And.intro hw4 (And.intro (HREL.out.2.1.below hb4 HREL.out.2.1.lt) (Below.chain hb4 (by rw [HB.out]; exact HREL.out.2.2)))))
      have s0 := hw4.facts.1 0
      have fs0 := hw4.facts.2.1 0
      have s1 := hw4.facts.1 1
      have fs1 := hw4.facts.2.1 1
      have s2 := hw4.facts.1 2
      have fs2 := hw4.facts.2.1 2
      have s3 := hw4.facts.1 3
      have fs3 := hw4.facts.2.1 3
      have HLT : Hid (b + 1 < wr.heap.size) := Lib.hid (Blk.lt HREL.out.1)
      clear ha3 hb4 hw4 H2 hz
      go_wp2_with fail
      have hp := PW.end0 (m := w2.heap.size + 1) (n := w2.heap.size) HN4.out.2.1 HN4.out.1 HLT.out
      have hx : ∀ a0 a1 a2 a3, Blk (((((w2.alloc (.cells #[.slice none 0 0, .int .i64 4096] 78)).alloc (.map #[] 0)).setCell ⟨b + 1, 0, none⟩ a0).setCell ⟨b + 1, 1, none⟩ a1).setCell ⟨b + 1, 2, none⟩ a2 |>.setCell ⟨b + 1, 3, none⟩ a3) b #[.int .i64 k, .int .i64 r, .int .i64 s, .int .i64 wi, .int .i64 bu, .int .i64 q, .int .i64 qu, .int .i64 t, .int .i64 wo, .int .i64 ws, .int .i64 ti] 23 := fun a0 a1 a2 a3 => (((HN4.out.2.2.1.setOther ⟨b + 1, 0, none⟩ a0 (by show b ≠ b + 1; omega)).setOther ⟨b + 1, 1, none⟩ a1 (by show b ≠ b + 1; omega)).setOther ⟨b + 1, 2, none⟩ a2 (by show b ≠ b + 1; omega)).setOther ⟨b + 1, 3, none⟩ a3 (by show b ≠ b + 1; omega)
      have hbb : ∀ a0 a1 a2 a3, Below b w (((((w2.alloc (.cells #[.slice none 0 0, .int .i64 4096] 78)).alloc (.map #[] 0)).setCell ⟨b + 1, 0, none⟩ a0).setCell ⟨b + 1, 1, none⟩ a1).setCell ⟨b + 1, 2, none⟩ a2 |>.setCell ⟨b + 1, 3, none⟩ a3) := fun a0 a1 a2 a3 => (((by have := HN4.out.2.2.2; rw [HB.out] at this; exact this : Below b w _).setCell (p := ⟨b + 1, 0, none⟩) (Nat.le_succ b) a0).setCell (p := ⟨b + 1, 1, none⟩) (Nat.le_succ b) a1).setCell (p := ⟨b + 1, 2, none⟩) (Nat.le_succ b) a2 |>.setCell (p := ⟨b + 1, 3, none⟩) (Nat.le_succ b) a3
      have HFIN := Lib.hid (And.intro hp (And.intro (hx (ptr be) (ptr w2.heap.size) (.map (some (w2.heap.size + 1))) (.slice none 0 0)) (hbb (ptr be) (ptr w2.heap.size) (.map (some (w2.heap.size + 1))) (.slice none 0 0))))
      clear hp hx hbb
      go_roundg 1
      case measure => omega
      case rel => exact ⟨1, by omega, by omega, by go_num, HFIN⟩
    | 1, _, HREL =>
      obtain ⟨⟨e0, n0, m0, b0, t0, j0, c0, h1, h2, h3⟩, hk, hbl⟩ := HREL.out
      have kk := hk
      have k0 := kk.facts.1 0
      have k1 := kk.facts.1 1
      have k2 := kk.facts.1 2
      have k3 := kk.facts.1 3
      have k4 := kk.facts.1 4
      have k5 := kk.facts.1 5
      have k6 := kk.facts.1 6
      have k7 := kk.facts.1 7
      have k8 := kk.facts.1 8
      have k9 := kk.facts.1 9
      have k10 := kk.facts.1 10
      have HX := Lib.hid (And.intro h1 (And.intro h2 (And.intro h3 (And.intro hk hbl))))
      clear kk h1 h2 h3 hk hbl
      go_wp2_with fail
      refine (HE.out wr).mono ?_
      rintro e w2 ⟨be, bt, bj, bc, rfl, hn, hb2⟩
      have H2 := Lib.hid (And.intro hn hb2)
      clear hn hb2 k0 k1 k2 k3 k4 k5 k6 k7 k8 k9 k10
      go_wp2_with fail
      refine (nnew0 4096 (by decide) (by decide) w2).mono ?_
      rintro e w3 ⟨rfl, rfl⟩
      have ha3 := Below.chainAlloc (Below.chainAlloc (Below.refl _ w2) (.cells #[.slice none 0 0, .int .i64 4096] 78)) (.map #[] 0)
      have hb4 := Below.chain ha3 H2.out.2
      have hw4 := HX.out.1.below hb4 HX.out.1.lt
      have HN4 := Lib.hid (And.intro (H2.out.1.below ha3) (And.intro hw4 (And.intro (HX.out.2.2.2.1.below hb4 HX.out.2.2.2.1.lt) (And.intro (Below.chain hb4 (by rw [HB.out]; exact HX.out.2.2.2.2)) (HX.out.2.1.below hb4)))))
      have s4 := hw4.facts.1 4
      have fs4 := hw4.facts.2.1 4
      have s5 := hw4.facts.1 5
      have fs5 := hw4.facts.2.1 5
      have s6 := hw4.facts.1 6
      have fs6 := hw4.facts.2.1 6
      have s7 := hw4.facts.1 7
      have fs7 := hw4.facts.2.1 7
      have HLT : Hid (b + 1 < wr.heap.size ∧ t0 < wr.heap.size) := Lib.hid ⟨HX.out.1.lt, HX.out.2.1.tlt⟩
      clear ha3 hb4 hw4 H2
      go_wp2_with fail
      have hp := PW.end1 (m := w2.heap.size + 1) (n := w2.heap.size) HN4.out.2.1 HN4.out.2.2.2.2 HX.out.2.2.1 HN4.out.1 HLT.out.1 HLT.out.2
      have hx : ∀ a0 a1 a2 a3, Blk (((((w2.alloc (.cells #[.slice none 0 0, .int .i64 4096] 78)).alloc (.map #[] 0)).setCell ⟨b + 1, 4, none⟩ a0).setCell ⟨b + 1, 5, none⟩ a1).setCell ⟨b + 1, 6, none⟩ a2 |>.setCell ⟨b + 1, 7, none⟩ a3) b #[.int .i64 k, .int .i64 r, .int .i64 s, .int .i64 wi, .int .i64 bu, .int .i64 q, .int .i64 qu, .int .i64 t, .int .i64 wo, .int .i64 ws, .int .i64 ti] 23 := fun a0 a1 a2 a3 => (((HN4.out.2.2.1.setOther ⟨b + 1, 4, none⟩ a0 (by show b ≠ b + 1; omega)).setOther ⟨b + 1, 5, none⟩ a1 (by show b ≠ b + 1; omega)).setOther ⟨b + 1, 6, none⟩ a2 (by show b ≠ b + 1; omega)).setOther ⟨b + 1, 7, none⟩ a3 (by show b ≠ b + 1; omega)
      have hbb : ∀ a0 a1 a2 a3, Below b w (((((w2.alloc (.cells #[.slice none 0 0, .int .i64 4096] 78)).alloc (.map #[] 0)).setCell ⟨b + 1, 4, none⟩ a0).setCell ⟨b + 1, 5, none⟩ a1).setCell ⟨b + 1, 6, none⟩ a2 |>.setCell ⟨b + 1, 7, none⟩ a3) := fun a0 a1 a2 a3 => (((by have := HN4.out.2.2.2.1; rw [HB.out] at this; exact this : Below b w _).setCell (p := ⟨b + 1, 4, none⟩) (Nat.le_succ b) a0).setCell (p := ⟨b + 1, 5, none⟩) (Nat.le_succ b) a1).setCell (p := ⟨b + 1, 6, none⟩) (Nat.le_succ b) a2 |>.setCell (p := ⟨b + 1, 7, none⟩) (Nat.le_succ b) a3
      have HFIN := Lib.hid (And.intro hp (And.intro (hx (ptr be) (ptr w2.heap.size) (.map (some (w2.heap.size + 1))) (.slice none 0 0)) (hbb (ptr be) (ptr w2.heap.size) (.map (some (w2.heap.size + 1))) (.slice none 0 0))))
      clear hp hx hbb
      go_roundg 0
      case measure => omega
      case rel => exact ⟨2, by omega, by omega, by go_num, HFIN⟩
    | 2, _, HREL =>
      go_wp2_with fail
      go_ret2
      exact ⟨b + 1, rfl, HREL.out.1, by rw [HB.out]; exact HREL.out.2.2, by have := HB.out; omega⟩
end Go.Proofs.Yteepdknnmdhckaa
