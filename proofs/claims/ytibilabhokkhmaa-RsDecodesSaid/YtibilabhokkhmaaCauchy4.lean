/-
  Cauchy: all rows, the program's and the document's; the chapter's example (chapter 4).
-/
import Derived.Test.YtibilabhokkhmaaCauchy3
namespace Go.Proofs.Ytibilabhokkhmaa
open Go.RowKit
set_option linter.unusedVariables false
set_option maxRecDepth 100000
set_option maxHeartbeats 1000000
def allR (k n : Int) : List (List Nat) := if badKN k n = true then [] else (List.range n.toNat).map (rowL k.toNat)
def AllPost (k n : Int) (w : World) (e : Ending) (w' : World) : Prop := ∃ v, e = .returned (.tuple #[v, .int .i64 (chkKN k n)]) ∧ MatAt 0 w' v (allR k n) ∧ Below w.heap.size w w'
def RowsN (k : Nat) (wr : World) (vs : List Value) : Prop := ∀ j (h : j < vs.length), RowAt 0 wr vs[j] (rowL k j)
theorem RowsN.snoc {k : Nat} {wr : World} {vs : List Value} {u : Value} {m : Nat} (h : RowsN k wr vs) (hm : vs.length = m) (hu : RowAt 0 wr u (rowL k m)) : RowsN k wr (vs ++ [u]) := fun j hj => by
  by_cases e : j < vs.length
  · rw [List.getElem_append_left e]; exact h j e
  · have : j = m := by simp at hj; omega
    subst this
    rw [List.getElem_append_right (by omega)]
    simpa [hm] using hu
theorem RowsN.map {k : Nat} {wr w' : World} {vs : List Value} (h : RowsN k wr vs) (f : ∀ u bs, RowAt 0 wr u bs → RowAt 0 w' u bs) : RowsN k w' vs := fun j hj => f _ _ (h j hj)
theorem crows_any (k n : Int) (w : World) : Calls Try.prog 19 #[.int .i64 k, .int .i64 n] w (AllPost k n w) := by
  cases hbad : badKN k n with
  | true =>
    have hc := chk1 hbad
    have HP : Hid (AllPost k n w (.returned (.tuple #[.slice none 0 0, .int .i64 1])) w) := ⟨_, by rw [hc], by unfold allR; rw [if_pos hbad]; exact MatAt.nil _ _, Below.refl _ _⟩
    have HC := Lib.hid hc
    clear hbad hc
    go_enter Try.func19, Try.ntmps19
    go_wp2_with fail
    refine (cchk_any k n _).mono ?_
    rw [HC.out]
    rintro x w1 ⟨rfl, rfl⟩
    go_wp2_with fail
    go_ret2
    exact HP.out
  | false =>
    have hc := chk0 hbad
    have hno := bad_no hbad
    obtain ⟨g1, g2, g3⟩ := hno
    obtain ⟨k, rfl⟩ := Int.eq_ofNat_of_zero_le (show 0 ≤ k by omega)
    obtain ⟨n, rfl⟩ := Int.eq_ofNat_of_zero_le (show 0 ≤ n by omega)
    have hmk := mk_rows n (by omega)
    have HP : Hid (∀ wx v, MatAt 0 wx v ((List.range n).map (rowL k)) → Below w.heap.size w wx → AllPost k n w (.returned (.tuple #[v, .int .i64 0])) wx) := fun wx v h hx =>
      ⟨_, by rw [hc], by unfold allR; rw [if_neg (by rw [hbad]; decide)]; exact h, hx⟩
    have HC := Lib.hid hc
    clear hbad hc
    go_enter Try.func19, Try.ntmps19
    go_wp2_with fail
    refine (cchk_any k n _).mono ?_
    rw [HC.out]
    rintro x w1 ⟨rfl, rfl⟩
    go_wp2_with fail
    clear hmk
    have hb := Blk.new w (Array.replicate n (Value.slice none 0 0)) 24
    have hB := Below.chainAlloc (Below.refl w.heap.size w) (.cells (Array.replicate n (Value.slice none 0 0)) 24)
    generalize w.alloc (.cells (Array.replicate n (Value.slice none 0 0)) 24) = W at *
    go_loopw [8, 19] (fun _ i wr => ∃ (m : Nat) (vs : List Value), m ≤ n ∧ i = .int .i64 m ∧ vs.length = m ∧ Blk wr w.heap.size (vs ++ List.replicate (n - m) (Value.slice none 0 0)).toArray 24 ∧ RowsN k wr vs ∧ Below w.heap.size w wr) (fun _ i _ => n - (intOf i).toNat)
    case atStart => exact ⟨0, [], by omega, rfl, rfl, by simpa using hb, fun j hj => by simp at hj, hB⟩
    case round =>
      clear hb hB
      obtain ⟨m, vs, hm', rfl, hvl, hb, hrs, hB⟩ := hrel
      have HV := Lib.hid hvl
      clear hvl
      by_cases hlt : m < n
      · have HS : Hid (∀ wx u, RowAt 0 wx u (rowL k m) → RowsN k wx vs → RowsN k wx (vs ++ [u])) := fun wx u hu hx => hx.snoc HV.out hu
        go_wp2_with fail
        refine (row_any k m (by omega) (by omega) (by omega) _).mono ?_
        rintro x w1 ⟨rfl, hr, hb1⟩
        replace hb := hb.below hb1 hb.lt
        replace hrs := hrs.map (fun u bs h => h.chain hb1)
        replace hB := Below.chain hb1 hB
        have hr0 : RowAt 0 w1 (.slice (some ⟨wr.heap.size, 0, none⟩) k k) (rowL k m) := by
          have := RowAt.of_blk (B := 0) (cap := k) hr (by rw [rowL_length]; exact Nat.le_refl _) (by unfold maxLen; omega) (rowL_lt k m)
          rwa [rowL_length] at this
        have hl := hb.lt
        have hset := set_mid vs (.slice (some ⟨wr.heap.size, 0, none⟩) k k) (.slice none 0 0) (n - m) (by omega)
        rw [HV.out, show n - m - 1 = n - (m + 1) by omega] at hset
        have HSET := Lib.hid hset
        have hcx : ∃ y, w1.cell? ⟨w.heap.size, m, none⟩ = some y := by
          refine ⟨.slice none 0 0, ?_⟩
          rw [hb.facts.1 m]
          have hvm := HV.out
          rw [List.getElem?_toArray, List.getElem?_append_right (by omega), List.getElem?_replicate, if_pos (by omega)]
        obtain ⟨y, hc⟩ := hcx
        have hf := hb.facts.2.1 m
        have hap : Apart 0 w1 5 w.heap.size := hb.apart (Nat.zero_le _) (by decide)
        clear hset hr hb1
        go_wp2_with fail
        go_roundw
        case rel => exact ⟨m + 1, vs ++ [_], by omega, by go_num, by simp [HV.out], hb.setAt m _ HSET.out.symm, HS.out _ _ (hr0.store _ _ hap) (hrs.map (fun u bs h => h.store _ _ hap)), hB.setCell (Nat.le_refl _) _⟩
        case measure => simp [intOf]; omega
      · obtain rfl : m = n := by omega
        have hs : MatAt 0 wr (.slice (some ⟨w.heap.size, 0, none⟩) m m) ((List.range m).map (rowL k)) := by
          rw [Nat.sub_self, List.replicate_zero, List.append_nil] at hb
          have := SlAt.of_blk (B := 0) (cap := m) hb (by rw [HV.out]; exact Nat.le_refl _) (by unfold maxLen; omega)
          rw [HV.out] at this
          refine ⟨vs, by simp [HV.out], this, fun i hi hi' => ?_⟩
          simpa using hrs i hi
        have HQ := Lib.hid (HP.out _ _ hs hB)
        clear hs hrs hb
        go_wp2_with fail
        go_ret2
        exact HQ.out
theorem infoInt : (Try.prog.info? 3).map (fun i => (i.zero, i.size, i.bytes)) = some (some (.int .i64 0), 1, 8) := by kernel_rfl
def ints (n : Nat) : List Int := (List.range n).map fun (j : Nat) => (j : Int)
theorem ints_snoc (m : Nat) : (ints (m + 1)).map (Value.int .i64) = (ints m).map (Value.int .i64) ++ [.int .i64 (m : Int)] := by simp [ints, List.range_succ]
theorem firstE_ints {k n : Int} (hb : badKN k n = false) : ∀ zs : List Int, (∀ z ∈ zs, 0 ≤ z ∧ z < n) → firstE k n zs = 0
  | [], _ => rfl
  | z :: zs, h => by
    have h1 := h z (by simp)
    unfold firstE
    rw [if_pos (rowE_ok hb h1.1 h1.2)]
    exact firstE_ints hb zs (fun y hy => h y (by simp [hy]))
theorem rrows_any (k n : Int) (w : World) : Calls Try.prog 20 #[.int .i64 k, .int .i64 n] w (AllPost k n w) := by
  cases hbad : badKN k n with
  | true =>
    have hc := chk1 hbad
    have HP : Hid (AllPost k n w (.returned (.tuple #[.slice none 0 0, .int .i64 1])) w) := ⟨_, by rw [hc], by unfold allR; rw [if_pos hbad]; exact MatAt.nil _ _, Below.refl _ _⟩
    have HC := Lib.hid hbad
    clear hbad hc
    go_enter Try.func20, Try.ntmps20
    go_wp2_with fail
    refine (rbad_any k n _).mono ?_
    rw [HC.out]
    rintro x w1 ⟨rfl, rfl⟩
    go_wp2_with fail
    go_ret2
    exact HP.out
  | false =>
    have hc := chk0 hbad
    have hno := bad_no hbad
    obtain ⟨g1, g2, g3⟩ := hno
    obtain ⟨k, rfl⟩ := Int.eq_ofNat_of_zero_le (show 0 ≤ k by omega)
    obtain ⟨n, rfl⟩ := Int.eq_ofNat_of_zero_le (show 0 ≤ n by omega)
    have HP : Hid (∀ wx wy e, Below w.heap.size w wx → PickPost k n (ints n) wx e wy → ∃ v, e = .returned (.tuple #[v, .int .i64 0]) ∧ AllPost k n w (.returned (.tuple #[v, .int .i64 0])) wy) := fun wx wy e hx ⟨v, he, hm, hb⟩ => by
      have hin : ∀ z ∈ ints n, 0 ≤ z ∧ z < (n : Int) := fun z hz => by
        obtain ⟨j, hj, rfl⟩ := List.mem_map.1 hz
        have := List.mem_range.1 hj
        exact ⟨by omega, by omega⟩
      have h0 : pickE k n (ints n) = 0 := by
        rw [pickE_ok hbad (by simp [ints]; omega) (by simp [ints]; omega)]
        exact firstE_ints hbad _ hin
      rw [h0] at he hm
      refine ⟨v, he, v, by rw [hc], ?_, Below.chain hb hx⟩
      have : picks k n (ints n) 0 = allR k n := by
        unfold picks allR
        rw [if_pos rfl, if_neg (by rw [hbad]; decide)]
        unfold ints
        rw [List.map_map]
        refine List.map_congr_left fun j hj => ?_
        have hj' := List.mem_range.1 hj
        show rowV k n j = _
        unfold rowV
        rw [if_pos (rowE_ok hbad (by omega) (by simpa using hj'))]
        rfl
      rwa [this] at hm
    have HC := Lib.hid hbad
    clear hbad hc
    obtain ⟨i0, hi, hz0, hz1, hz2⟩ := info_parts infoInt
    go_enter Try.func20, Try.ntmps20
    go_wp2_with fail
    refine (rbad_any k n _).mono ?_
    rw [HC.out]
    rintro x w1 ⟨rfl, rfl⟩
    go_wp2_with fail
    go_loopw [6, 7] (fun lv i wr => ∃ m : Nat, m ≤ n ∧ i = .int .i64 m ∧ Seg wr w.heap.size 3 1 lv m ((ints m).map (Value.int .i64)) ∧ Below w.heap.size w wr) (fun _ i _ => n - (intOf i).toNat)
    case atStart => exact ⟨0, by omega, rfl, Seg.nil _ _ _ _, Below.refl _ _⟩
    case round =>
      obtain ⟨m, hm, rfl, hs, hB⟩ := hrel
      obtain ⟨ao, co, rfl⟩ := hs.form
      by_cases hlt : m < n
      · have hsn := Lib.hid (ints_snoc m)
        have hbz : w.heap.size ≤ wr.heap.size := hB.size
        go_wp2_with (at_builtin; refine wpList_append_seg _ rfl (.tmp 16) (.tmp 18) 22 rfl w.heap.size 3 i0 _ 1 8 Try.underlying22 hi hz0 hz1 hz2 rfl (by decide) (.slice ao m co) m ((ints m).map (Value.int .i64)) rfl (hs.alloc _) ⟨wr.heap.size, 0, none⟩ 1 1 [.int .i64 (m : Int)] rfl rfl (cells_new _ _ _) (by simp [Value.oneCell']) (by decide) (by unfold maxLen; omega) (by omega) (by simp; omega) (wr.heap.size + 1) (size_alloc _ _) ?_; intro g' off' cap' w3 hown hgrow hat)
        have hbb := Below.only (Below.chainAlloc hB _) (Only.of_grown hgrow) (fun x hm => (hs.blk x (by simpa using hm)).1)
        clear hgrow hat hs hB
        go_wp2_with fail
        go_roundw
        case rel => exact ⟨m + 1, by omega, by go_num, by rw [hsn.out]; exact hown, hbb⟩
        case measure => simp [intOf]; omega
      · obtain rfl : m = n := by omega
        have hia : IntsAt 0 wr (.slice ao m co) (ints m) := ⟨SlAt.of_seg hs, fun z hz => by
          obtain ⟨j, hj, rfl⟩ := List.mem_map.1 hz
          have := List.mem_range.1 hj
          omega⟩
        have HQ := Lib.hid (fun wy e h => HP.out wr wy e hB h)
        clear HP hs
        go_wp2_with fail
        refine (rpick_any k m 0 _ (ints m) _ hia).mono ?_
        rintro x w1 hp
        obtain ⟨v, rfl, hq⟩ := HQ.out _ _ hp
        have HR := Lib.hid hq
        clear hp hq hia
        go_wp2_with fail
        go_ret2
        exact HR.out
theorem awake04 (w : World) : Calls Try.prog 12 #[] w fun e w' => e = .returned (.bool true) ∧ Below w.heap.size w w' := by
  have v1 := Lib.hid (show rowE 2 3 2 = 0 ∧ rowV 2 3 2 = [142, 244] by decide +kernel)
  have v2 := Lib.hid (show rowE 3 2 0 = 1 by decide +kernel)
  have v3 := Lib.hid (show rowE 2 3 3 = 2 by decide +kernel)
  have v4 := Lib.hid (show pickE 2 4 [3, 0] = 0 ∧ picks 2 4 [3, 0] 0 = [rowL 2 3, [1, 0]] by decide +kernel)
  go_enter Try.func12, Try.ntmps12
  go_wp2_with fail
  refine (crow_any 2 3 2 _).mono ?_
  rintro x w1 ⟨r1, rfl, hr1, hb1⟩
  rw [v1.out.1]
  have k1 := hr1 0
  rw [v1.out.2] at k1
  go_wp2_with fail
  refine (crow_any 3 2 0 _).mono ?_
  rintro x w2 ⟨r2, rfl, hr2, hb2⟩
  rw [v2.out]
  replace k1 := k1.chain hb2
  have hB := Below.chain hb2 hb1
  clear hr1 hb1 hr2 hb2
  go_wp2_with fail
  refine (crow_any 2 3 3 _).mono ?_
  rintro x w3 ⟨r3, rfl, hr3, hb3⟩
  rw [v3.out]
  replace k1 := k1.chain hb3
  replace hB := Below.chain hb3 hB
  clear hr3 hb3
  go_wp2_with fail
  have kk : Blk (w3.alloc (.cells #[.int .i64 3, .int .i64 0] 3)) w3.heap.size (([3, 0] : List Int).map (Value.int .i64)).toArray 3 := Blk.new _ _ _
  have hia : IntsAt 0 (w3.alloc (.cells #[.int .i64 3, .int .i64 0] 3)) (.slice (some ⟨w3.heap.size, 0, none⟩) 2 2) [3, 0] := ⟨SlAt.of_blk (cap := 2) kk (by decide) (by decide), by decide⟩
  replace k1 := k1.chain (Below.chainAlloc (Below.refl _ _) (.cells #[.int .i64 3, .int .i64 0] 3))
  replace hB := Below.chainAlloc hB (.cells #[.int .i64 3, .int .i64 0] 3)
  refine (pick_any 2 4 0 _ [3, 0] _ hia).mono ?_
  rintro x w4 ⟨r4, rfl, hm, hb4⟩
  rw [v4.out.1] at hm ⊢
  rw [v4.out.2] at hm
  replace k1 := k1.chain hb4
  replace hB := Below.chain hb4 hB
  clear kk hia hb4
  obtain ⟨a1, c1, rfl, _⟩ := k1.at
  obtain ⟨a4, c4, rfl, _, hc4⟩ := hm.at
  obtain ⟨g4, o4, u4, rfl, hg4, hc41, hr4⟩ := hc4 1 (by decide)
  have hr41 : RowAt 0 w4 u4 [1, 0] := hr4
  clear hc4 hr4 hm
  go_wp2_with fail
  have n1 : RowAt 0 (w4.alloc (.cells #[.int .u8 142, .int .u8 244] 5)) (.slice (some ⟨w4.heap.size, 0, none⟩) 2 2) [142, 244] := RowAt.of_blk (bs := [142, 244]) (cap := 2) (Blk.new _ _ _) (by decide) (by decide) (by decide)
  replace k1 := k1.chain (Below.chainAlloc (Below.refl _ _) (.cells #[.int .u8 142, .int .u8 244] 5))
  replace hr41 := hr41.chain (Below.chainAlloc (Below.refl _ _) (.cells #[.int .u8 142, .int .u8 244] 5))
  refine (same_any _ k1 n1).mono ?_
  have s1 : sameB [142, 244] [142, 244] = true := by decide
  rw [s1]
  rintro x w5 ⟨rfl, hd⟩
  replace hB := Below.chain hd.below (Below.chainAlloc hB (.cells #[.int .u8 142, .int .u8 244] 5))
  replace hr41 := hr41.chain hd.below
  have hc : w5.cell? ⟨g4, o4 + 1, none⟩ = some u4 := (hd.below.cell (p := ⟨g4, o4 + 1, none⟩) (by simp; omega)).trans ((Below.chainAlloc (Below.refl w4.heap.size w4) (.cells #[.int .u8 142, .int .u8 244] 5)).cell (p := ⟨g4, o4 + 1, none⟩) hg4 |>.trans hc41)
  clear k1 n1 hd s1 hc41
  obtain ⟨a5, c5, rfl, _⟩ := hr41.at
  go_wp2_with fail
  have n2 : RowAt 0 (w5.alloc (.cells #[.int .u8 1, .int .u8 0] 5)) (.slice (some ⟨w5.heap.size, 0, none⟩) 2 2) [1, 0] := RowAt.of_blk (bs := [1, 0]) (cap := 2) (Blk.new _ _ _) (by decide) (by decide) (by decide)
  replace hr41 := hr41.chain (Below.chainAlloc (Below.refl _ _) (.cells #[.int .u8 1, .int .u8 0] 5))
  refine (same_any _ hr41 n2).mono ?_
  have s2 : sameB [1, 0] [1, 0] = true := by decide
  rw [s2]
  rintro x w6 ⟨rfl, hd⟩
  replace hB := Below.chain hd.below (Below.chainAlloc hB (.cells #[.int .u8 1, .int .u8 0] 5))
  clear hr41 n2 s2 hd hc
  go_wp2_with fail
  go_ret
  exact ⟨rfl, hB⟩
end Go.Proofs.Ytibilabhokkhmaa
