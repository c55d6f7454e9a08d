/-
  How much there is on a side; whether all is sound (chapters 32, 37).
-/
import Derived.Test.YteepdknnmdhckaaCp5
namespace Go.Proofs.Yteepdknnmdhckaa
open Go Go.RowKit
set_option linter.unusedVariables false
set_option linter.unusedSimpArgs false
set_option maxRecDepth 100000
set_option maxHeartbeats 2000000
theorem wat_any (bw k : Nat) (hk : k < 2) (w : World) : Calls Try.prog 26 #[ptr bw, .int .i64 (k : Int)] w fun e w' => e = .returned (.pointer (some ⟨bw, k * 4, none⟩)) ∧ w = w' := by
  have h1 : ¬ (k : Int) < 0 := by omega
  have h2 : ¬ (2 : Int) ≤ (k : Int) := by omega
  have h3 : (0 : Int) ≤ (k : Int) := by omega
  have h4 : (k : Int) < 2 := by omega
  go_enter Try.func26, Try.ntmps26
  go_wp2_with fail
  go_ret
  exact ⟨by simp, rfl⟩
theorem zero_box {w : World} {b : Nat} (h : Blk w b #[.int .i64 0, .int .i64 0, .int .i64 0, .int .i64 0, .int .i64 0, .int .i64 0] 24) : Only [b] w ((((((w.setCell ⟨b, 0, none⟩ (.int .i64 0)).setCell ⟨b, 1, none⟩ (.int .i64 0)).setCell ⟨b, 2, none⟩ (.int .i64 0)).setCell ⟨b, 3, none⟩ (.int .i64 0)).setCell ⟨b, 4, none⟩ (.int .i64 0)).setCell ⟨b, 5, none⟩ (.int .i64 0)) := ((((((Only.refl _ _).setCell _ _ (.inl (by simp))).setCell _ _ (.inl (by simp))).setCell _ _ (.inl (by simp))).setCell _ _ (.inl (by simp))).setCell _ _ (.inl (by simp))).setCell _ _ (.inl (by simp))
theorem EndN.tlo {base be bt bj bc : Nat} {w : World} (h : EndN base w be bt bj bc) : base ≤ bt := by
  obtain ⟨b0, room, s, hlo, ht⟩ := h.t
  have := ht.h.lo
  omega
theorem wload_new {bw k base be bt bj bc : Nat} {w : World} (hk : k < 2) (hc : w.cell? ⟨bw, k * 4, none⟩ = some (ptr be)) (hbw : bw < w.heap.size) (hne : bw ≠ bt) (h : EndN base w be bt bj bc) : Calls Try.prog 20 #[ptr bw, .int .i64 (k : Int)] w fun e w' => e = .returned (.agg #[.int .i64 0, .int .i64 0, .int .i64 0, .int .i64 0, .int .i64 0, .int .i64 0]) ∧ EndN base w' be bt bj bc ∧ Only [bt] w w' := by
  have ha := Below.chainAlloc (Below.refl _ w) (.cells #[.int .i64 0, .int .i64 0, .int .i64 0, .int .i64 0, .int .i64 0, .int .i64 0] 24)
  have HE := Lib.hid (eload_new (h.below ha))
  have HOW := Lib.hid ((Only.of_below (S := [bt]) ha))
  have HZ := Lib.hid (Blk.new w #[.int .i64 0, .int .i64 0, .int .i64 0, .int .i64 0, .int .i64 0, .int .i64 0] 24)
  have HAT := Lib.hid (fun w' => wat_any bw k hk w')
  have HNE := Lib.hid ((h.below ha).tne (Blk.new w #[.int .i64 0, .int .i64 0, .int .i64 0, .int .i64 0, .int .i64 0, .int .i64 0] 24) (by decide))
  clear ha h hk
  go_enter Try.func20, Try.ntmps20
  go_wp2_with fail
  refine (HAT.out _).mono ?_
  rintro e w1 ⟨rfl, rfl⟩
  go_wp2_with fail
  refine HE.out.mono ?_
  rintro e w2 ⟨rfl, hn, ho⟩
  have kz := HZ.out.only ho (by simp; exact HNE.out)
  have z0 := kz.facts.1 0
  have fz0 := kz.facts.2.1 0
  have z1 := kz.facts.1 1
  have fz1 := kz.facts.2.1 1
  have z2 := kz.facts.1 2
  have fz2 := kz.facts.2.1 2
  have z3 := kz.facts.1 3
  have fz3 := kz.facts.2.1 3
  have z4 := kz.facts.1 4
  have fz4 := kz.facts.2.1 4
  have z5 := kz.facts.1 5
  have fz5 := kz.facts.2.1 5
  have HF := Lib.hid (And.intro hn (And.intro ho kz))
  clear kz hn ho
  go_wp2_with fail
  have hb := zero_box HF.out.2.2
  exact bodyPost_ret (v := .agg #[.int .i64 0, .int .i64 0, .int .i64 0, .int .i64 0, .int .i64 0, .int .i64 0]) (by simp [results, Try.results20, go_sem, z0, z1, z2, z3, z4, z5]) rfl ⟨rfl, HF.out.1.box HF.out.2.2 (fun _ _ => trivial) hb (fun b1 room s _ q => q.box HF.out.2.2 hb), (HOW.out.trans HF.out.2.1).trans' hb (fun x hx => by simp at hx; subst hx; exact .inr (Nat.le_refl _))⟩
theorem sound_new (k r s wi bu q qu t wo ws ti : Int) {bw : Nat} {w : World} (h : PW bw 2 w) (hok : okB (fun _ => 0) (mostF k r s wi bu q qu t wo ws ti) 6 = true) : Calls Try.prog 16 #[ptr bw, .agg #[.int .i64 k, .int .i64 r, .int .i64 s, .int .i64 wi, .int .i64 bu, .int .i64 q, .int .i64 qu, .int .i64 t, .int .i64 wo, .int .i64 ws, .int .i64 ti]] w fun e w' => e = .returned (.bool true) ∧ ∃ ts, Only ts w w' ∧ ∀ x ∈ ts, bw ≤ x := by
  obtain ⟨e0, n0, m0, b0, t0, j0, c0, e1, n1, m1, b1, t1, j1, c1, hw, ⟨h0, hb0⟩, h1, hb1, ht⟩ := h
  have HWI : Hid (∀ w', Calls Try.prog 7 #[.agg #[.int .i64 k, .int .i64 r, .int .i64 s, .int .i64 wi, .int .i64 bu, .int .i64 q, .int .i64 qu, .int .i64 t, .int .i64 wo, .int .i64 ws, .int .i64 ti], .agg #[.int .i64 0, .int .i64 0, .int .i64 0, .int .i64 0, .int .i64 0, .int .i64 0]] w' fun e w'' => e = .returned (.bool true) ∧ Below w'.heap.size w' w'') := Lib.hid fun w' => by
    have := within_any k r s wi bu q qu t wo ws ti (fun _ => 0) w'
    rw [hok] at this
    exact this
  have ha := Below.chainAlloc (Below.refl _ w) (.cells #[.int .i64 k, .int .i64 r, .int .i64 s, .int .i64 wi, .int .i64 bu, .int .i64 q, .int .i64 qu, .int .i64 t, .int .i64 wo, .int .i64 ws, .int .i64 ti] 23)
  have HT : Hid (bw ≤ t0 ∧ bw ≤ t1 ∧ t0 < b1) := Lib.hid ⟨by have := h0.tlo; omega, by have := h1.tlo; omega, ht⟩
  have HST : Hid (Only [t0, t1] (w.alloc (.cells #[.int .i64 k, .int .i64 r, .int .i64 s, .int .i64 wi, .int .i64 bu, .int .i64 q, .int .i64 qu, .int .i64 t, .int .i64 wo, .int .i64 ws, .int .i64 ti] 23)) (w.alloc (.cells #[.int .i64 k, .int .i64 r, .int .i64 s, .int .i64 wi, .int .i64 bu, .int .i64 q, .int .i64 qu, .int .i64 t, .int .i64 wo, .int .i64 ws, .int .i64 ti] 23)) ∧ Blk (w.alloc (.cells #[.int .i64 k, .int .i64 r, .int .i64 s, .int .i64 wi, .int .i64 bu, .int .i64 q, .int .i64 qu, .int .i64 t, .int .i64 wo, .int .i64 ws, .int .i64 ti] 23)) bw #[ptr e0, ptr n0, .map (some m0), .slice none 0 0, ptr e1, ptr n1, .map (some m1), .slice none 0 0, .int .i64 0, .int .i64 0, .slice none 0 0, .slice none 0 0, .int .i64 0] 48 ∧ Blk (w.alloc (.cells #[.int .i64 k, .int .i64 r, .int .i64 s, .int .i64 wi, .int .i64 bu, .int .i64 q, .int .i64 qu, .int .i64 t, .int .i64 wo, .int .i64 ws, .int .i64 ti] 23)) w.heap.size #[.int .i64 k, .int .i64 r, .int .i64 s, .int .i64 wi, .int .i64 bu, .int .i64 q, .int .i64 qu, .int .i64 t, .int .i64 wo, .int .i64 ws, .int .i64 ti] 23 ∧ (0 = 0 → EndN b0 (w.alloc (.cells #[.int .i64 k, .int .i64 r, .int .i64 s, .int .i64 wi, .int .i64 bu, .int .i64 q, .int .i64 qu, .int .i64 t, .int .i64 wo, .int .i64 ws, .int .i64 ti] 23)) e0 t0 j0 c0) ∧ (0 ≤ 1 → EndN b1 (w.alloc (.cells #[.int .i64 k, .int .i64 r, .int .i64 s, .int .i64 wi, .int .i64 bu, .int .i64 q, .int .i64 qu, .int .i64 t, .int .i64 wo, .int .i64 ws, .int .i64 ti] 23)) e1 t1 j1 c1)) := Lib.hid ⟨Only.refl _ _, hw.below ha hw.lt, Blk.new _ _ _, fun _ => h0.below ha, fun _ => h1.below ha⟩
  have HOW := Lib.hid (Only.of_below (S := [t0, t1]) ha)
  clear hw h0 hb0 h1 hb1 ht ha hok
  go_enter Try.func16, Try.ntmps16
  go_wp2_with fail
  generalize w.alloc (.cells #[.int .i64 k, .int .i64 r, .int .i64 s, .int .i64 wi, .int .i64 bu, .int .i64 q, .int .i64 qu, .int .i64 t, .int .i64 wo, .int .i64 ws, .int .i64 ti] 23) = W1 at *
  obtain ⟨b, hb⟩ : ∃ b, w.heap.size = b := ⟨_, rfl⟩
  rw [hb] at HST ⊢
  go_loopg [8] 2 (fun gk i wr => ∃ sd : Nat, 2 - sd ≤ gk ∧ sd ≤ 2 ∧ i = .int .i64 (sd : Int) ∧ Hid (Only [t0, t1] W1 wr ∧ Blk wr bw #[ptr e0, ptr n0, .map (some m0), .slice none 0 0, ptr e1, ptr n1, .map (some m1), .slice none 0 0, .int .i64 0, .int .i64 0, .slice none 0 0, .slice none 0 0, .int .i64 0] 48 ∧ Blk wr b #[.int .i64 k, .int .i64 r, .int .i64 s, .int .i64 wi, .int .i64 bu, .int .i64 q, .int .i64 qu, .int .i64 t, .int .i64 wo, .int .i64 ws, .int .i64 ti] 23 ∧ (sd = 0 → EndN b0 wr e0 t0 j0 c0) ∧ (sd ≤ 1 → EndN b1 wr e1 t1 j1 c1)))
  case atStart => exact ⟨0, by omega, by omega, rfl, Lib.hid ⟨HST.out.1, HST.out.2.1, HST.out.2.2.1, fun _ => HST.out.2.2.2.1 (by trivial), fun _ => HST.out.2.2.2.2 (by decide)⟩⟩
  case round =>
    clear HST
    obtain ⟨sd, hkg, hk, rfl, HREL⟩ := hrel
    match sd, hk, HREL with
    | 0, _, HREL =>
      have hen := HREL.out.2.2.2.1 rfl
      have hwc : wr.drew.cell? ⟨bw, 0 * 4, none⟩ = some (ptr e0) := HREL.out.2.1.drew.facts.1 0
      have hnt : bw ≠ t0 := hen.tne HREL.out.2.1 (by decide)
      have hnb : b ≠ t0 := hen.tne HREL.out.2.2.1 (by decide)
      have HLD : Hid (Calls Try.prog 20 #[.pointer (some ⟨bw, 0, none⟩), .int .i64 0] wr.drew fun e w' => e = .returned (.agg #[.int .i64 0, .int .i64 0, .int .i64 0, .int .i64 0, .int .i64 0, .int .i64 0]) ∧ EndN b0 w' e0 t0 j0 c0 ∧ Only [t0] wr.drew w' ∧ Blk w' b #[.int .i64 k, .int .i64 r, .int .i64 s, .int .i64 wi, .int .i64 bu, .int .i64 q, .int .i64 qu, .int .i64 t, .int .i64 wo, .int .i64 ws, .int .i64 ti] 23 ∧ Blk w' bw #[ptr e0, ptr n0, .map (some m0), .slice none 0 0, ptr e1, ptr n1, .map (some m1), .slice none 0 0, .int .i64 0, .int .i64 0, .slice none 0 0, .slice none 0 0, .int .i64 0] 48) := Lib.hid ((wload_new (k := 0) (by decide) hwc HREL.out.2.1.drew.lt hnt (hen.below (Below.refl _ wr).drew)).mono fun e w' q => ⟨q.1, q.2.1, q.2.2, HREL.out.2.2.1.drew.only q.2.2 (by simp; exact hnb), HREL.out.2.1.drew.only q.2.2 (by simp; exact hnt)⟩)
      have HC0 := Lib.hid (cellsOf HREL.out.2.2.1.drew)
      have kk := HREL.out.2.2.1
      have k0 := kk.facts.1 0
      have k1 := kk.facts.1 1
      have k2 := kk.facts.1 2
      have k3 := kk.facts.1 3
      have k4 := kk.facts.1 4
      have k5 := kk.facts.1 5
      have k6 := kk.facts.1 6
      have k7 := kk.facts.1 7
      have k8 := kk.facts.1 8
      have k9 := kk.facts.1 9
      have k10 := kk.facts.1 10
      clear hen hwc hnt hnb kk
      go_wp2_with fail
      clear k0 k1 k2 k3 k4 k5 k6 k7 k8 k9 k10
      go_region_held3 (fun w' => (∀ o, w'.cell? ⟨b, o, none⟩ = (#[.int .i64 k, .int .i64 r, .int .i64 s, .int .i64 wi, .int .i64 bu, .int .i64 q, .int .i64 qu, .int .i64 t, .int .i64 wo, .int .i64 ws, .int .i64 ti] : Array Value)[o]?))
        (first
          | with_reducible exact HC0.out
          | exact cellsOf HX2.out.2.2.2.1
          | exact cellsOf (HX2.out.2.2.2.1.below HB3.out HX2.out.2.2.2.1.lt))
        ((first
          | (go_at_call 20; refine HLD.out.mono ?_; rintro e w2 ⟨rfl, hx⟩; have HX2 : Hid (True ∧ EndN b0 w2 e0 t0 j0 c0 ∧ Only [t0] wr.drew w2 ∧ Blk w2 b #[.int .i64 k, .int .i64 r, .int .i64 s, .int .i64 wi, .int .i64 bu, .int .i64 q, .int .i64 qu, .int .i64 t, .int .i64 wo, .int .i64 ws, .int .i64 ti] 23 ∧ Blk w2 bw #[ptr e0, ptr n0, .map (some m0), .slice none 0 0, ptr e1, ptr n1, .map (some m1), .slice none 0 0, .int .i64 0, .int .i64 0, .slice none 0 0, .slice none 0 0, .int .i64 0] 48) := Lib.hid ⟨trivial, hx⟩; clear hx)
          | (go_at_call 7; refine (HWI.out _).mono ?_; rintro e w3 ⟨rfl, hb3⟩; have HB3 := Lib.hid hb3; clear hb3)))
      have HFIN : Hid (Only [t0, t1] W1 w3 ∧ Blk w3 bw #[ptr e0, ptr n0, .map (some m0), .slice none 0 0, ptr e1, ptr n1, .map (some m1), .slice none 0 0, .int .i64 0, .int .i64 0, .slice none 0 0, .slice none 0 0, .int .i64 0] 48 ∧ Blk w3 b #[.int .i64 k, .int .i64 r, .int .i64 s, .int .i64 wi, .int .i64 bu, .int .i64 q, .int .i64 qu, .int .i64 t, .int .i64 wo, .int .i64 ws, .int .i64 ti] 23 ∧ (0 + 1 = 0 → EndN b0 w3 e0 t0 j0 c0) ∧ (0 + 1 ≤ 1 → EndN b1 w3 e1 t1 j1 c1)) := Lib.hid ⟨((HREL.out.1.drew.trans' HX2.out.2.2.1 (fun x hx => .inl (by simp at hx; simp [hx]))).trans (Only.of_below HB3.out)), HX2.out.2.2.2.2.below HB3.out HX2.out.2.2.2.2.lt, HX2.out.2.2.2.1.below HB3.out HX2.out.2.2.2.1.lt, fun h => absurd h (by decide), fun _ => ((HREL.out.2.2.2.2 (by decide)).below (Below.refl _ wr).drew |>.other HX2.out.2.2.1 HT.out.2.2).below HB3.out⟩
      clear HX2 HB3 HLD HC0
      go_wp2_with fail
      go_roundg 1
      case measure => omega
      case rel => exact ⟨1, by omega, by omega, by go_num, HFIN⟩
    | 1, _, HREL =>
      have hen := HREL.out.2.2.2.2 (Nat.le_refl _)
      have hwc : wr.drew.cell? ⟨bw, 1 * 4, none⟩ = some (ptr e1) := HREL.out.2.1.drew.facts.1 4
      have hnt : bw ≠ t1 := hen.tne HREL.out.2.1 (by decide)
      have hnb : b ≠ t1 := hen.tne HREL.out.2.2.1 (by decide)
      have HLD : Hid (Calls Try.prog 20 #[.pointer (some ⟨bw, 0, none⟩), .int .i64 1] wr.drew fun e w' => e = .returned (.agg #[.int .i64 0, .int .i64 0, .int .i64 0, .int .i64 0, .int .i64 0, .int .i64 0]) ∧ EndN b1 w' e1 t1 j1 c1 ∧ Only [t1] wr.drew w' ∧ Blk w' b #[.int .i64 k, .int .i64 r, .int .i64 s, .int .i64 wi, .int .i64 bu, .int .i64 q, .int .i64 qu, .int .i64 t, .int .i64 wo, .int .i64 ws, .int .i64 ti] 23 ∧ Blk w' bw #[ptr e0, ptr n0, .map (some m0), .slice none 0 0, ptr e1, ptr n1, .map (some m1), .slice none 0 0, .int .i64 0, .int .i64 0, .slice none 0 0, .slice none 0 0, .int .i64 0] 48) := Lib.hid ((wload_new (k := 1) (by decide) hwc HREL.out.2.1.drew.lt hnt (hen.below (Below.refl _ wr).drew)).mono fun e w' q => ⟨q.1, q.2.1, q.2.2, HREL.out.2.2.1.drew.only q.2.2 (by simp; exact hnb), HREL.out.2.1.drew.only q.2.2 (by simp; exact hnt)⟩)
      have HC0 := Lib.hid (cellsOf HREL.out.2.2.1.drew)
      have kk := HREL.out.2.2.1
      have k0 := kk.facts.1 0
      have k1 := kk.facts.1 1
      have k2 := kk.facts.1 2
      have k3 := kk.facts.1 3
      have k4 := kk.facts.1 4
      have k5 := kk.facts.1 5
      have k6 := kk.facts.1 6
      have k7 := kk.facts.1 7
      have k8 := kk.facts.1 8
      have k9 := kk.facts.1 9
      have k10 := kk.facts.1 10
      clear hen hwc hnt hnb kk
      go_wp2_with fail
      clear k0 k1 k2 k3 k4 k5 k6 k7 k8 k9 k10
      go_region_held3 (fun w' => (∀ o, w'.cell? ⟨b, o, none⟩ = (#[.int .i64 k, .int .i64 r, .int .i64 s, .int .i64 wi, .int .i64 bu, .int .i64 q, .int .i64 qu, .int .i64 t, .int .i64 wo, .int .i64 ws, .int .i64 ti] : Array Value)[o]?))
        (first
          | with_reducible exact HC0.out
          | exact cellsOf HX2.out.2.2.2.1
          | exact cellsOf (HX2.out.2.2.2.1.below HB3.out HX2.out.2.2.2.1.lt))
        ((first
          | (go_at_call 20; refine HLD.out.mono ?_; rintro e w2 ⟨rfl, hx⟩; have HX2 : Hid (True ∧ EndN b1 w2 e1 t1 j1 c1 ∧ Only [t1] wr.drew w2 ∧ Blk w2 b #[.int .i64 k, .int .i64 r, .int .i64 s, .int .i64 wi, .int .i64 bu, .int .i64 q, .int .i64 qu, .int .i64 t, .int .i64 wo, .int .i64 ws, .int .i64 ti] 23 ∧ Blk w2 bw #[ptr e0, ptr n0, .map (some m0), .slice none 0 0, ptr e1, ptr n1, .map (some m1), .slice none 0 0, .int .i64 0, .int .i64 0, .slice none 0 0, .slice none 0 0, .int .i64 0] 48) := Lib.hid ⟨trivial, hx⟩; clear hx)
          | (go_at_call 7; refine (HWI.out _).mono ?_; rintro e w3 ⟨rfl, hb3⟩; have HB3 := Lib.hid hb3; clear hb3)))
      have HFIN : Hid (Only [t0, t1] W1 w3 ∧ Blk w3 bw #[ptr e0, ptr n0, .map (some m0), .slice none 0 0, ptr e1, ptr n1, .map (some m1), .slice none 0 0, .int .i64 0, .int .i64 0, .slice none 0 0, .slice none 0 0, .int .i64 0] 48 ∧ Blk w3 b #[.int .i64 k, .int .i64 r, .int .i64 s, .int .i64 wi, .int .i64 bu, .int .i64 q, .int .i64 qu, .int .i64 t, .int .i64 wo, .int .i64 ws, .int .i64 ti] 23 ∧ (1 + 1 = 0 → EndN b0 w3 e0 t0 j0 c0) ∧ (1 + 1 ≤ 1 → EndN b1 w3 e1 t1 j1 c1)) := Lib.hid ⟨((HREL.out.1.drew.trans' HX2.out.2.2.1 (fun x hx => .inl (by simp at hx; simp [hx]))).trans (Only.of_below HB3.out)), HX2.out.2.2.2.2.below HB3.out HX2.out.2.2.2.2.lt, HX2.out.2.2.2.1.below HB3.out HX2.out.2.2.2.1.lt, fun h => absurd h (by decide), fun h => absurd h (by decide)⟩
      clear HX2 HB3 HLD HC0
      go_wp2_with fail
      go_roundg 0
      case measure => omega
      case rel => exact ⟨2, by omega, by omega, by go_num, HFIN⟩
    | 2, _, HREL =>
      go_wp2_with fail
      go_ret
      exact ⟨rfl, [t0, t1], HOW.out.trans HREL.out.1, fun x hx => by simp at hx; have := HT.out; rcases hx with rfl | rfl <;> omega⟩
end Go.Proofs.Yteepdknnmdhckaa
