/-
  Cauchy: picked rows, all rows: the program's and the document's: contracts (chapter 4).
-/
import Derived.Test.YtibilabhokkhmaaCauchy
namespace Go.Proofs.Ytibilabhokkhmaa
open Go.RowKit
set_option linter.unusedVariables false
set_option maxRecDepth 100000
set_option maxHeartbeats 1000000
def IntsAt (B : Nat) (w : World) (v : Value) (zs : List Int) : Prop := SlAt B w 3 v (zs.map (Value.int .i64)) ∧ ∀ z ∈ zs, -9223372036854775808 ≤ z ∧ z ≤ 9223372036854775807
theorem IntsAt.chain {B : Nat} {w w' : World} {v : Value} {zs : List Int} (h : IntsAt B w v zs) (hb : Below w.heap.size w w') : IntsAt B w' v zs := ⟨h.1.chain hb, h.2⟩
theorem IntsAt.at {B : Nat} {w : World} {v : Value} {zs : List Int} (h : IntsAt B w v zs) : ∃ a cap, v = .slice a zs.length cap ∧ zs.length ≤ 9223372036854775807 ∧ ∀ k (hk : k < zs.length), ∃ g off, a = some ⟨g, off, none⟩ ∧ g < w.heap.size ∧ w.cell? ⟨g, off + k, none⟩ = some (.int .i64 zs[k]) ∧ -9223372036854775808 ≤ zs[k] ∧ zs[k] ≤ 9223372036854775807 := by
  have hm := h.1.max
  obtain ⟨a, cap, hv, hc⟩ := h.1.at
  rw [List.length_map] at hv hm
  refine ⟨a, cap, hv, hm, fun k hk => ?_⟩
  obtain ⟨g, off, ha, hg, e⟩ := hc k (by simpa using hk)
  exact ⟨g, off, ha, hg, by rw [e]; simp, h.2 _ (by simp)⟩
theorem Seg.apart {B base : Nat} {w : World} {e t : TypeId} {size n : Nat} {v : Value} {xs : List Value} (h : Seg w base e size v n xs) (ht : e ≠ t) (hB : B ≤ base) : ∀ x ∈ v.ownBlock.toList, Apart B w t x := fun x hx => by
  rcases h.2 with ⟨rfl, _⟩ | ⟨g, off, cap, cur, rfl, hg, hh, _⟩
  · simp [Value.ownBlock] at hx
  · have : g = x := by simpa [Value.ownBlock, eq_comm] using hx
    subst this
    refine ⟨by omega, fun cs fr e' => ?_⟩
    rw [hh] at e'
    cases e'
    exact ht rfl
theorem pick1_any (b1 b2 : Nat) (k n i : Int) (w : World) (h1 : w.cell? ⟨b1, 0, none⟩ = some (.int .i64 k)) (h2 : w.cell? ⟨b2, 0, none⟩ = some (.int .i64 n)) : Calls Try.prog 46 #[.int .i64 i, .pointer (some ⟨b1, 0, none⟩), .pointer (some ⟨b2, 0, none⟩)] w (RowPost k n i w) := by
  have l1 := World.block_lt_of_cell? _ _ h1
  have l2 := World.block_lt_of_cell? _ _ h2
  go_enter Try.func46, Try.ntmps46
  go_wp2_with fail
  refine (crow_any k n i _).mono ?_
  rintro x w1 ⟨v, rfl, hr, hb⟩
  have H : Hid (RowPost k n i w (.returned (.tuple #[v, .int .i64 (rowE k n i)])) w1) := ⟨v, rfl, hr, hb⟩
  generalize rowE k n i = z at *
  clear hr hb
  go_wp2_with fail
  go_ret2
  exact H.out
def firstE (k n : Int) : List Int → Int
  | [] => 0
  | z :: zs => if rowE k n z = 0 then firstE k n zs else rowE k n z
theorem firstE_take {k n : Int} : ∀ {zs : List Int} {m : Nat} (h : m < zs.length), firstE k n (zs.take m) = 0 → rowE k n zs[m] = 0 → firstE k n (zs.take (m + 1)) = 0
  | [], m, h, _, _ => absurd h (Nat.not_lt_zero _)
  | z :: zs, 0, h, _, hz => by
    have hz' : rowE k n z = 0 := hz
    simp [firstE, hz']
  | z :: zs, m + 1, h, h1, h2 => by
    simp only [List.take_succ_cons, firstE] at h1 ⊢
    by_cases hz : rowE k n z = 0
    · rw [if_pos hz] at h1 ⊢
      exact firstE_take (by simpa using h) h1 h2
    · rw [if_neg hz] at h1
      exact absurd h1 hz
theorem firstE_stop {k n : Int} : ∀ {zs : List Int} {m : Nat} (h : m < zs.length), firstE k n (zs.take m) = 0 → rowE k n zs[m] ≠ 0 → firstE k n zs = rowE k n zs[m]
  | [], m, h, _, _ => absurd h (Nat.not_lt_zero _)
  | z :: zs, 0, h, _, hz => by
    have hz' : ¬ rowE k n z = 0 := hz
    simp [firstE, hz']
  | z :: zs, m + 1, h, h1, h2 => by
    simp only [List.take_succ_cons, firstE] at h1 ⊢
    by_cases hz : rowE k n z = 0
    · rw [if_pos hz] at h1 ⊢
      exact firstE_stop (zs := zs) (by simpa using h) h1 h2
    · rw [if_neg hz] at h1
      exact absurd h1 hz
def picks (k n : Int) (zs : List Int) (e : Int) : List (List Nat) := if e = 0 then zs.map (rowV k n) else []
def FirstPost (k n : Int) (zs : List Int) (w : World) (e : Ending) (w' : World) : Prop := ∃ v, e = .returned (.tuple #[v, .int .i64 (firstE k n zs)]) ∧ MatAt 0 w' v (picks k n zs (firstE k n zs)) ∧ Below w.heap.size w w'
/-- The rows so far. -/
def RowsSo (k n : Int) (zs : List Int) (wr : World) (vs : List Value) : Prop := ∀ j (h : j < vs.length) (h' : j < zs.length), RowAt 0 wr vs[j] (rowV k n zs[j])
theorem RowsSo.snoc {k n : Int} {zs : List Int} {wr : World} {vs : List Value} {u : Value} {m : Nat} (h : RowsSo k n zs wr vs) (hm : vs.length = m) (hmz : m < zs.length) (hu : RowAt 0 wr u (rowV k n zs[m])) : RowsSo k n zs wr (vs ++ [u]) := fun j hj hj' => by
  by_cases e : j < vs.length
  · rw [List.getElem_append_left e]; exact h j e hj'
  · have : j = m := by simp at hj; omega
    subst this
    rw [List.getElem_append_right (by omega)]
    simpa [hm] using hu
theorem RowsSo.map {k n : Int} {zs : List Int} {wr w' : World} {vs : List Value} (h : RowsSo k n zs wr vs) (f : ∀ u bs, RowAt 0 wr u bs → RowAt 0 w' u bs) : RowsSo k n zs w' vs := fun j hj hj' => f _ _ (h j hj hj')
theorem RowsSo.mat {k n : Int} {zs : List Int} {wr : World} {v : Value} {vs : List Value} (h : RowsSo k n zs wr vs) (hl : vs.length = zs.length) (hs : SlAt 0 wr 24 v vs) (he : firstE k n zs = 0) : MatAt 0 wr v (picks k n zs (firstE k n zs)) := by
  unfold picks
  rw [if_pos he]
  refine ⟨vs, by simpa using hl, hs, fun i hi hi' => ?_⟩
  have := h i hi (by omega)
  simpa using this
theorem infoRow : (Try.prog.info? 24).map (fun i => (i.zero, i.size, i.bytes)) = some (some (.slice none 0 0), 1, 24) := by kernel_rfl
theorem made_rows (k : Nat) : madeCells #[.slice none 0 0] k = (Array.replicate k (Value.slice none 0 0)) := by
  apply Array.ext
  · simp [madeCells]
  · intro j h1 h2
    simp [madeCells, Nat.mod_one]
theorem mk_rows (k : Nat) (hk : k ≤ 65536) (w : World) : (Instr.makeSlice 30 (.int .i64 (k : Int)) (.int .i64 (k : Int))).run Try.prog w = .ok (.slice (some ⟨w.heap.size, 0, none⟩) k k) (w.alloc (.cells (Array.replicate k (Value.slice none 0 0)) 24)) := by
  obtain ⟨i0, hi, hz0, hz1, hz2⟩ := info_parts infoRow
  have := run_make (P := Try.prog) w 30 24 i0 (.slice none 0 0) Try.underlying30 hi hz0 .i64 .i64 k k (by omega) (by omega) (by rw [hz2]; omega) (by omega)
  rw [this, hz1, Nat.mul_one, Int.toNat_natCast]
  rw [show (Value.slice none 0 0).cells = #[.slice none 0 0] from rfl, made_rows]
theorem set_mid (vs : List Value) (u z : Value) (k : Nat) (hk : 0 < k) : (vs ++ List.replicate k z).toArray.setIfInBounds vs.length u = ((vs ++ [u]) ++ List.replicate (k - 1) z).toArray := by
  obtain ⟨k, rfl⟩ : ∃ j, k = j + 1 := ⟨k - 1, by omega⟩
  simp [List.replicate_succ]
theorem picked_any (b1 b2 : Nat) (k n : Int) (B : Nat) (v : Value) (zs : List Int) (w : World) (h : IntsAt B w v zs) (hlen : zs.length ≤ 255) (h1 : w.cell? ⟨b1, 0, none⟩ = some (.int .i64 k)) (h2 : w.cell? ⟨b2, 0, none⟩ = some (.int .i64 n)) :
    Calls Try.prog 45 #[v, .func (Fn.func 46) #[] #[.pointer (some ⟨b1, 0, none⟩), .pointer (some ⟨b2, 0, none⟩)]] w (FirstPost k n zs w) := by
  have h0 := h
  have l1 := World.block_lt_of_cell? _ _ h1
  have l2 := World.block_lt_of_cell? _ _ h2
  obtain ⟨a, cap, rfl, hm, _⟩ := h.at
  have hmk := mk_rows zs.length (by omega)
  go_enter Try.func45, Try.ntmps45
  go_wp2_with fail
  clear hmk h
  have hb := Blk.new w (Array.replicate zs.length (Value.slice none 0 0)) 24
  have hB := Below.chainAlloc (Below.refl w.heap.size w) (.cells (Array.replicate zs.length (Value.slice none 0 0)) 24)
  generalize w.alloc (.cells (Array.replicate zs.length (Value.slice none 0 0)) 24) = W at *
  go_loopw [16] (fun i wr => ∃ (m : Nat) (vs : List Value), m ≤ zs.length ∧ i = .int .i64 m ∧ firstE k n (zs.take m) = 0 ∧ vs.length = m ∧ Blk wr w.heap.size (vs ++ List.replicate (zs.length - m) (Value.slice none 0 0)).toArray 24 ∧ RowsSo k n zs wr vs ∧ Below w.heap.size w wr) (fun i _ => zs.length - (intOf i).toNat)
  case atStart => exact ⟨0, [], by omega, rfl, rfl, rfl, by simpa using hb, fun j hj => by simp at hj, hB⟩
  case round =>
    clear hb hB
    obtain ⟨m, vs, hm', rfl, hf, hvl, hb, hrs, hB⟩ := hrel
    have HF := Lib.hid hf
    have HV := Lib.hid hvl
    clear hf hvl
    by_cases hlt : m < zs.length
    · obtain ⟨_, _, e, _, hc⟩ := (h0.chain hB).at
      cases e
      obtain ⟨g, off, rfl, hg, hck, hz0, hz1⟩ := hc m hlt
      clear hc
      have q1 : wr.cell? ⟨b1, 0, none⟩ = some (.int .i64 k) := (hB.cell (p := ⟨b1, 0, none⟩) l1).trans h1
      have q2 : wr.cell? ⟨b2, 0, none⟩ = some (.int .i64 n) := (hB.cell (p := ⟨b2, 0, none⟩) l2).trans h2
      by_cases hz : rowE k n zs[m] = 0
      · have HT := Lib.hid (firstE_take hlt HF.out hz)
        have HS : Hid (∀ wx u, RowAt 0 wx u (rowV k n zs[m]) → RowsSo k n zs wx vs → RowsSo k n zs wx (vs ++ [u])) := fun wx u hu hx => hx.snoc HV.out hlt hu
        have HZ := Lib.hid hz
        clear hz
        generalize hzz : zs[m] = z at *
        clear hzz
        go_wp2_with fail
        refine (pick1_any b1 b2 k n z _ q1 q2).mono ?_
        rintro x w1 ⟨u, rfl, hr, hb1⟩
        replace hb := hb.below hb1 hb.lt
        replace hrs := hrs.map (fun u bs h => h.chain hb1)
        replace hB := Below.chain hb1 hB
        have hr0 := hr 0
        rw [HZ.out]
        have hl := hb.lt
        have hset := set_mid vs u (.slice none 0 0) (zs.length - m) (by omega)
        rw [HV.out, show zs.length - m - 1 = zs.length - (m + 1) by omega] at hset
        have HSET := Lib.hid hset
        have hcx : ∃ y, w1.cell? ⟨w.heap.size, m, none⟩ = some y := by
          refine ⟨.slice none 0 0, ?_⟩
          rw [hb.facts.1 m]
          have hvm := HV.out
          rw [List.getElem?_toArray, List.getElem?_append_right (by omega), List.getElem?_replicate, if_pos (by omega)]
        obtain ⟨y, hc⟩ := hcx
        have hf := hb.facts.2.1 m
        have hap : Apart 0 w1 5 w.heap.size := hb.apart (Nat.zero_le _) (by decide)
        clear hset hr hb1 q1 q2 hck
        obtain ⟨au, cu, rfl, _⟩ := hr0.at
        go_wp2_with fail
        go_roundw
        case rel => exact ⟨m + 1, vs ++ [_], by omega, by go_num, HT.out, by simp [HV.out], hb.setAt m _ HSET.out.symm, HS.out _ _ (hr0.store _ _ hap) (hrs.map (fun u bs h => h.store _ _ hap)), hB.setCell (Nat.le_refl _) _⟩
        case measure => simp [intOf]; omega
      · have hst := firstE_stop hlt HF.out hz
        have hne : (rowE k n zs[m] != 0) = true := by simpa using hz
        have HP : Hid (∀ wx, Below w.heap.size w wx → FirstPost k n zs w (.returned (.tuple #[.slice none 0 0, .int .i64 (rowE k n zs[m])])) wx) := fun wx hx =>
          ⟨_, by rw [hst], by unfold picks; rw [if_neg (by rw [hst]; exact hz)]; exact MatAt.nil _ _, hx⟩
        clear hz hst
        generalize hzz : zs[m] = z at *
        clear hzz
        go_wp2_with fail
        refine (pick1_any b1 b2 k n z _ q1 q2).mono ?_
        rintro x w1 ⟨u, rfl, hr, hb1⟩
        replace hB := Below.chain hb1 hB
        have HP2 := Lib.hid (HP.out _ hB)
        clear hr hb1 q1 q2 hck HP
        generalize rowE k n z = zz at *
        go_wp2_with fail
        go_ret2
        exact HP2.out
    · obtain rfl : m = zs.length := by omega
      have hs : SlAt 0 wr 24 (.slice (some ⟨w.heap.size, 0, none⟩) zs.length zs.length) vs := by
        rw [Nat.sub_self, List.replicate_zero, List.append_nil] at hb
        have := SlAt.of_blk (B := 0) (cap := zs.length) hb (by rw [HV.out]; exact Nat.le_refl _) (by unfold maxLen; omega)
        rwa [HV.out] at this
      have hfe := HF.out
      rw [List.take_length] at hfe
      have HP : Hid (FirstPost k n zs w (.returned (.tuple #[.slice (some ⟨w.heap.size, 0, none⟩) zs.length zs.length, .int .i64 0])) wr) :=
        ⟨_, by rw [hfe], hrs.mat HV.out hs hfe, hB⟩
      clear hfe hs hrs hb
      go_wp2_with fail
      go_ret2
      exact HP.out
end Go.Proofs.Ytibilabhokkhmaa
