/-
  Cauchy: Pick and Rows, the program's and the document's; the chapter's example (chapter 4).
-/
import Derived.Test.YtibilabhokkhmaaCauchy2
namespace Go.Proofs.Ytibilabhokkhmaa
open Go.RowKit
set_option linter.unusedVariables false
set_option maxRecDepth 100000
set_option maxHeartbeats 1000000
def pickE (k n : Int) (zs : List Int) : Int := if badKN k n = true ∨ zs.length < 1 ∨ 255 < zs.length then 1 else firstE k n zs
theorem pickE_bad {k n : Int} {zs : List Int} (h : badKN k n = true ∨ zs.length < 1 ∨ 255 < zs.length) : pickE k n zs = 1 := by unfold pickE; rw [if_pos h]
theorem pickE_ok {k n : Int} {zs : List Int} (h : badKN k n = false) (h1 : 1 ≤ zs.length) (h2 : zs.length ≤ 255) : pickE k n zs = firstE k n zs := by
  unfold pickE
  rw [if_neg]
  rintro (h' | h' | h')
  · rw [h] at h'; cases h'
  · omega
  · omega
def PickPost (k n : Int) (zs : List Int) (w : World) (e : Ending) (w' : World) : Prop := ∃ v, e = .returned (.tuple #[v, .int .i64 (pickE k n zs)]) ∧ MatAt 0 w' v (picks k n zs (pickE k n zs)) ∧ Below w.heap.size w w'
theorem PickPost.bad {k n : Int} {zs : List Int} {w w' : World} (h : badKN k n = true ∨ zs.length < 1 ∨ 255 < zs.length) (hb : Below w.heap.size w w') : PickPost k n zs w (.returned (.tuple #[.slice none 0 0, .int .i64 1])) w' :=
  ⟨_, by rw [pickE_bad h], by unfold picks; rw [if_neg (by rw [pickE_bad h]; decide)]; exact MatAt.nil _ _, hb⟩
theorem pick_any (k n : Int) (B : Nat) (v : Value) (zs : List Int) (w : World) (h : IntsAt B w v zs) : Calls Try.prog 15 #[.int .i64 k, .int .i64 n, v] w (PickPost k n zs w) := by
  have h0 := h
  obtain ⟨a, cap, rfl, hm, _⟩ := h.at
  clear h
  cases hb : badKN k n with
  | true =>
    have HP : Hid (∀ wx, Below w.heap.size w wx → PickPost k n zs w (.returned (.tuple #[.slice none 0 0, .int .i64 1])) wx) := fun wx hx => PickPost.bad (.inl hb) hx
    have HC := Lib.hid (chk1 hb)
    clear hb
    go_enter Try.func15, Try.ntmps15
    go_wp2_with fail
    refine (cchk_any k n _).mono ?_
    rw [HC.out]
    rintro x w1 ⟨rfl, rfl⟩
    go_wp2_with fail
    go_ret2
    exact HP.out _ (Below.chainAlloc (Below.chainAlloc (Below.refl _ _) _) _)
  | false =>
    have HC := Lib.hid (chk0 hb)
    by_cases h1 : zs.length < 1
    · have HP : Hid (∀ wx, Below w.heap.size w wx → PickPost k n zs w (.returned (.tuple #[.slice none 0 0, .int .i64 1])) wx) := fun wx hx => PickPost.bad (.inr (.inl h1)) hx
      have h1' : (zs.length : Int) < 1 := by omega
      clear hb h1
      go_enter Try.func15, Try.ntmps15
      go_wp2_with fail
      refine (cchk_any k n _).mono ?_
      rw [HC.out]
      rintro x w1 ⟨rfl, rfl⟩
      go_wp2_with fail
      go_ret2
      exact HP.out _ (Below.chainAlloc (Below.chainAlloc (Below.refl _ _) _) _)
    · by_cases h2 : 255 < zs.length
      · have HP : Hid (∀ wx, Below w.heap.size w wx → PickPost k n zs w (.returned (.tuple #[.slice none 0 0, .int .i64 1])) wx) := fun wx hx => PickPost.bad (.inr (.inr h2)) hx
        have h1' : ¬ (zs.length : Int) < 1 := by omega
        have h2' : (255 : Int) < zs.length := by omega
        clear hb h1 h2
        go_enter Try.func15, Try.ntmps15
        go_wp2_with fail
        refine (cchk_any k n _).mono ?_
        rw [HC.out]
        rintro x w1 ⟨rfl, rfl⟩
        go_wp2_with fail
        go_ret2
        exact HP.out _ (Below.chainAlloc (Below.chainAlloc (Below.refl _ _) _) _)
      · have h1' : ¬ (zs.length : Int) < 1 := by omega
        have h2' : ¬ (255 : Int) < zs.length := by omega
        have HE := Lib.hid (pickE_ok (zs := zs) hb (by omega) (by omega))
        clear hb h1 h2
        go_enter Try.func15, Try.ntmps15
        go_wp2_with fail
        refine (cchk_any k n _).mono ?_
        rw [HC.out]
        rintro x w1 ⟨rfl, rfl⟩
        go_wp2_with fail
        have q1 : ((w.alloc (.cells #[.int .i64 k] 3)).alloc (.cells #[.int .i64 n] 3)).cell? ⟨w.heap.size, 0, none⟩ = some (.int .i64 k) := ((Blk.new w #[.int .i64 k] 3).alloc _).facts.1 0
        have q2 : ((w.alloc (.cells #[.int .i64 k] 3)).alloc (.cells #[.int .i64 n] 3)).cell? ⟨w.heap.size + 1, 0, none⟩ = some (.int .i64 n) := (Blk.newAt (n := w.heap.size + 1) (w := w.alloc (.cells #[.int .i64 k] 3)) (cs := #[.int .i64 n]) (t := 3) (size_alloc _ _).symm).facts.1 0
        have hB := Below.chainAlloc (Below.chainAlloc (Below.refl w.heap.size w) (.cells #[.int .i64 k] 3)) (.cells #[.int .i64 n] 3)
        refine (picked_any _ _ k n B _ zs _ (h0.chain hB) (by omega) q1 q2).mono ?_
        rintro x w1 ⟨u, rfl, hr, hb1⟩
        have HP : Hid (PickPost k n zs w (.returned (.tuple #[u, .int .i64 (firstE k n zs)])) w1) := ⟨u, by rw [HE.out], by rw [HE.out]; exact hr, Below.chain hb1 hB⟩
        clear q1 q2 hB hr hb1
        generalize firstE k n zs = z at *
        go_wp2_with fail
        go_ret2
        exact HP.out
theorem rpick_any (k n : Int) (B : Nat) (v : Value) (zs : List Int) (w : World) (h : IntsAt B w v zs) : Calls Try.prog 16 #[.int .i64 k, .int .i64 n, v] w (PickPost k n zs w) := by
  have h0 := h
  obtain ⟨a, cap, rfl, hm, _⟩ := h.at
  clear h
  cases hb : badKN k n with
  | true =>
    have HP : Hid (∀ wx, Below w.heap.size w wx → PickPost k n zs w (.returned (.tuple #[.slice none 0 0, .int .i64 1])) wx) := fun wx hx => PickPost.bad (.inl hb) hx
    have HC := Lib.hid hb
    clear hb
    go_enter Try.func16, Try.ntmps16
    go_wp2_with fail
    refine (rbad_any k n _).mono ?_
    rw [HC.out]
    rintro x w1 ⟨rfl, rfl⟩
    go_wp2_with fail
    go_ret2
    exact HP.out _ (Below.refl _ _)
  | false =>
    have HC := Lib.hid hb
    by_cases h1 : zs.length < 1
    · have HP : Hid (∀ wx, Below w.heap.size w wx → PickPost k n zs w (.returned (.tuple #[.slice none 0 0, .int .i64 1])) wx) := fun wx hx => PickPost.bad (.inr (.inl h1)) hx
      have h1' : (zs.length : Int) < 1 := by omega
      clear hb h1
      go_enter Try.func16, Try.ntmps16
      go_wp2_with fail
      refine (rbad_any k n _).mono ?_
      rw [HC.out]
      rintro x w1 ⟨rfl, rfl⟩
      go_wp2_with fail
      go_ret2
      exact HP.out _ (Below.refl _ _)
    · by_cases h2 : 255 < zs.length
      · have HP : Hid (∀ wx, Below w.heap.size w wx → PickPost k n zs w (.returned (.tuple #[.slice none 0 0, .int .i64 1])) wx) := fun wx hx => PickPost.bad (.inr (.inr h2)) hx
        have h1' : ¬ (zs.length : Int) < 1 := by omega
        have h2' : (255 : Int) < zs.length := by omega
        clear hb h1 h2
        go_enter Try.func16, Try.ntmps16
        go_wp2_with fail
        refine (rbad_any k n _).mono ?_
        rw [HC.out]
        rintro x w1 ⟨rfl, rfl⟩
        go_wp2_with fail
        go_ret2
        exact HP.out _ (Below.refl _ _)
      · have h1' : decide ((zs.length : Int) < 1) = false := decide_eq_false (by omega)
        have h2' : decide ((255 : Int) < zs.length) = false := decide_eq_false (by omega)
        have hz255 : zs.length ≤ 255 := by omega
        have HE := Lib.hid (pickE_ok (zs := zs) hb (by omega) (by omega))
        clear hb h1 h2
        obtain ⟨i0, hi, hz0, hz1, hz2⟩ := info_parts infoRow
        go_enter Try.func16, Try.ntmps16
        go_wp2_with fail
        refine (rbad_any k n _).mono ?_
        rw [HC.out]
        rintro x w1 ⟨rfl, rfl⟩
        go_wp2_with fail
        clear h1' h2'
        go_loopw [8, 9, 10, 11] (fun ov i _ _ wr => ∃ (m : Nat) (vs : List Value), m ≤ zs.length ∧ i = .int .i64 m ∧ firstE k n (zs.take m) = 0 ∧ vs.length = m ∧ Seg wr w.heap.size 24 1 ov m vs ∧ RowsSo k n zs wr vs ∧ Below w.heap.size w wr) (fun _ i _ _ _ => zs.length - (intOf i).toNat)
        case atStart => exact ⟨0, [], by omega, rfl, rfl, rfl, Seg.nil _ _ _ _, fun j hj => by simp at hj, Below.refl _ _⟩
        case round =>
          obtain ⟨m, vs, hm', rfl, hf, hvl, hs, hrs, hB⟩ := hrel
          have HF := Lib.hid hf
          have HV := Lib.hid hvl
          clear hf hvl
          by_cases hlt : m < zs.length
          · obtain ⟨_, _, e, _, hc⟩ := (h0.chain hB).at
            cases e
            obtain ⟨g, off, rfl, hg, hck, hzz0, hzz1⟩ := hc m hlt
            clear hc
            by_cases hz : rowE k n zs[m] = 0
            · have HT := Lib.hid (firstE_take hlt HF.out hz)
              have HS : Hid (∀ wx u, RowAt 0 wx u (rowV k n zs[m]) → RowsSo k n zs wx vs → RowsSo k n zs wx (vs ++ [u])) := fun wx u hu hx => hx.snoc HV.out hlt hu
              have HZ := Lib.hid hz
              clear hz
              generalize hzz : zs[m] = z at *
              clear hzz
              go_wp2_with fail
              refine (rrow_any k n z _).mono ?_
              rintro x w1 ⟨u, rfl, hr, hb1⟩
              replace hs := hs.chain hb1
              replace hrs := hrs.map (fun u bs h => h.chain hb1)
              replace hB := Below.chain hb1 hB
              have hr0 := hr 0
              rw [HZ.out]
              have hbz : w.heap.size ≤ w1.heap.size := hB.size
              clear hr hb1 hck
              obtain ⟨au, cu, rfl, _⟩ := hr0.at
              obtain ⟨ao, co, rfl⟩ := hs.form
              go_wp2_with (at_builtin; refine wpList_append_seg _ rfl (.tmp 44) (.tmp 46) 30 rfl w.heap.size 24 i0 _ 1 24 Try.underlying30 hi hz0 hz1 hz2 rfl (by decide) (.slice ao m co) m vs rfl (hs.alloc _) ⟨w1.heap.size, 0, none⟩ 1 1 [.slice au (rowV k n z).length cu] rfl rfl (cells_new _ _ _) (by simp [Value.oneCell']) (by decide) (by unfold maxLen; omega) (by omega) (by simp; omega) (w1.heap.size + 1) (size_alloc _ _) ?_; intro g' off' cap' w3 hown hgrow hat)
              have hap := (hs.alloc (.cells #[.slice au (rowV k n z).length cu] 24)).apart (t := 5) (B := 0) (by decide) (Nat.zero_le _)
              have ho := Only.of_grown hgrow
              have hbb := Below.only (Below.chainAlloc hB _) ho (fun x hm => (hs.blk x (by simpa using hm)).1)
              have hr3 := (hr0.chain (Below.chainAlloc (Below.refl _ _) (.cells #[.slice au (rowV k n z).length cu] 24))).only ho hap
              have hrs3 := hrs.map (fun u bs h => (h.chain (Below.chainAlloc (Below.refl _ _) (.cells #[.slice au (rowV k n z).length cu] 24))).only ho hap)
              clear hap ho hgrow hat hs hB hr0 hrs
              go_wp2_with fail
              go_roundw
              case rel => exact ⟨m + 1, vs ++ [.slice au (rowV k n z).length cu], by omega, by go_num, HT.out, by simp [HV.out], hown, HS.out _ _ hr3 hrs3, hbb⟩
              case measure => simp [intOf]; omega
            · have hst := firstE_stop hlt HF.out hz
              have hne : (rowE k n zs[m] != 0) = true := by simpa using hz
              have HP : Hid (∀ wx, Below w.heap.size w wx → PickPost k n zs w (.returned (.tuple #[.slice none 0 0, .int .i64 (rowE k n zs[m])])) wx) := fun wx hx =>
                ⟨_, by rw [HE.out, hst], by unfold picks; rw [if_neg (by rw [HE.out, hst]; exact hz)]; exact MatAt.nil _ _, hx⟩
              clear hz hst
              generalize hzz : zs[m] = z at *
              clear hzz
              go_wp2_with fail
              refine (rrow_any k n z _).mono ?_
              rintro x w1 ⟨u, rfl, hr, hb1⟩
              replace hB := Below.chain hb1 hB
              have HP2 := Lib.hid (HP.out _ hB)
              clear hr hb1 hck HP
              generalize rowE k n z = zz at *
              go_wp2_with fail
              go_ret2
              exact HP2.out
          · obtain rfl : m = zs.length := by omega
            have hsl : SlAt 0 wr 24 _ vs := SlAt.of_seg hs
            have hfe := HF.out
            rw [List.take_length] at hfe
            obtain ⟨ao, co, rfl⟩ := hs.form
            have HP : Hid (PickPost k n zs w (.returned (.tuple #[.slice ao zs.length co, .int .i64 0])) wr) :=
              ⟨_, by rw [HE.out, hfe], by rw [HE.out]; exact hrs.mat HV.out hsl hfe, hB⟩
            have hlt' : ¬ (zs.length : Int) < (zs.length : Int) := by omega
            clear hfe hs hrs hsl
            go_wp2_with fail
            go_ret2
            exact HP.out
end Go.Proofs.Ytibilabhokkhmaa
