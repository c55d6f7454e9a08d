/-
  Stats: the law's own list: one more, in order (chapter 51).
-/
import Derived.Test.YtdjjienklfbalaaSta4
import Derived.Test.YtdjjienklfbalaaOwn
namespace Go.Proofs.Ytdjjienklfbalaa
open Go.RowKit
set_option linter.unusedVariables false
set_option maxRecDepth 100000
set_option maxHeartbeats 1000000
theorem insZ_front {zs : List Int} {x : Int} (h : ∀ z ∈ zs, x ≤ z) : insZ zs x = x :: zs := by
  unfold insZ
  have e : zs.countP (· < x) = 0 := by
    rw [List.countP_eq_zero]
    intro y hy
    have := h y hy
    simp
    omega
  rw [e]
  simp
theorem put_eq : ∀ (zs : List Int) (x : Int) (k : Nat), zs.Pairwise (· ≤ ·) → k ≤ zs.length → (∀ z ∈ zs.take k, z ≤ x) → (∀ z ∈ zs.drop k, x < z) → zs.take k ++ x :: zs.drop k = insZ zs x
  | [], x, k, _, hk, _, _ => by
    simp only [List.length_nil] at hk
    obtain rfl : k = 0 := by omega
    rfl
  | a :: zs, x, 0, ho, _, _, h2 => by
    rw [insZ_front (fun z hz => Int.le_of_lt (h2 z (by simpa using hz)))]
    rfl
  | a :: zs, x, k + 1, ho, hk, h1, h2 => by
    have ho' := List.pairwise_cons.1 ho
    have ih := put_eq zs x k ho'.2 (by simpa using hk) (fun z hz => h1 z (by simp [hz])) (fun z hz => h2 z (by simpa using hz))
    have ha := h1 a (by simp)
    rw [List.take_succ_cons, List.drop_succ_cons, List.cons_append, ih, insZ_cons a zs x ho]
    by_cases h : a < x
    · rw [if_pos h]
    · rw [if_neg h]
      obtain rfl : a = x := by omega
      rw [insZ_front ho'.1]
theorem infoInt : (Try.prog.info? 3).map (fun i => (i.zero, i.size, i.bytes)) = some (some (.int .i64 0), 1, 8) := by kernel_rfl
theorem ints_one {zs : List Int} : ∀ u ∈ ints zs, u.oneCell' = true := fun u hu => by
  obtain ⟨z, _, rfl⟩ := List.mem_map.1 hu
  rfl
theorem below_of_grown {a b : World} (h : a.grownBy b none) : Below a.heap.size a b := ⟨h.os, h.tape, h.output, h.size, fun k hk => h.block k hk (by simp)⟩
def PutP (zs : List Int) (x : Int) (w : World) (e : Ending) (w' : World) : Prop := ∃ v', e = .returned v' ∧ Seg w' w.heap.size 3 1 v' (zs.length + 1) (ints (insZ zs x)) ∧ Below w.heap.size w w'
theorem put_st (base : Nat) (v : Value) (zs : List Int) (x : Int) (w : World) (hs : Seg w base 3 1 v zs.length (ints zs)) (ho : zs.Pairwise (· ≤ ·)) (hn : zs.length ≤ 100) : Calls Try.prog 53 #[v, .int .i64 x] w (PutP zs x w) := by
  obtain ⟨i0, hi, hz0, hz1, hz2⟩ := info_parts infoInt
  rcases hs.2 with ⟨hv, h0⟩ | ⟨g, off, cap, cur, hv, hbg, hg, hnc, hcm, hsz, hcx⟩
  · have e0 : zs = [] := List.eq_nil_of_length_eq_zero h0
    subst e0
    subst hv
    go_enter Try.func53, Try.ntmps53
    go_wp2_with fail
    go_loopg [5] 1 (fun gk v wr => v = .int .i64 0 ∧ wr = w)
    case atStart => exact ⟨rfl, rfl⟩
    case round =>
      obtain ⟨rfl, rfl⟩ := hrel
      have hx1 : SlAt wr.heap.size wr 3 (.slice none 0 0) (ints []) := SlAt.nil wr.heap.size wr 3
      have HLEN : Hid ((ints []).length = 0 ∧ (ints []).length = 0) := Lib.hid ⟨rfl, rfl⟩
      have hbz : wr.heap.size ≤ wr.heap.size := Nat.le_refl _
      go_wp2_with (first
        | (at_builtin; refine wpList_append_sl rfl (.tmp 21) (.tmp 24) 29 rfl wr.heap.size wr.heap.size 3 3 i0 _ 8 Try.underlying29 hi hz0 hz1 hz2 rfl (.slice none 0 0) 0 [] rfl (Seg.nil _ _ _ _) (.slice none 0 0) (ints []) rfl hx1 ints_one (by have := HLEN.out.1; unfold maxLen; omega) (by have := HLEN.out.1; omega) hbz ?_; intro v1 w1 hown1 hgrow1 hat1; rw [Nat.zero_add, List.nil_append, HLEN.out.1] at hown1; have hB1 := below_of_grown hgrow1; obtain ⟨a1, c1, rfl⟩ := hown1.form)
        | (at_builtin; refine wpList_append_seg _ rfl (.tmp 26) (.tmp 28) 29 rfl wr.heap.size 3 i0 _ 1 8 Try.underlying29 hi hz0 hz1 hz2 rfl (by decide) (.slice a1 0 c1) 0 (ints []) rfl (hown1.alloc _) ⟨w1.heap.size, 0, none⟩ 1 1 [.int .i64 x] rfl rfl (cells_new _ _ _) (by simp [Value.oneCell']) (by decide) (by unfold maxLen; omega) (by omega) (by have := hB1.size; simp; omega) (w1.heap.size + 1) (size_alloc _ _) ?_; intro g2 o2 c2 w2 hown2 hgrow2 hat2; have hB2 : Below wr.heap.size wr w2 := (Below.chainAlloc hB1 _).grown hgrow2 (by have := hB1.size; simp; omega) (fun k hk => (hown1.blk k hk).1))
        | (at_builtin; refine wpList_append_sl rfl (.tmp 30) (.tmp 33) 29 rfl wr.heap.size wr.heap.size 3 3 i0 _ 8 Try.underlying29 hi hz0 hz1 hz2 rfl (.slice (some ⟨g2, o2, none⟩) (0 + 1) c2) (0 + 1) _ rfl hown2 (.slice none 0 0) (ints []) rfl (SlAt.chain hx1 hB2) ints_one (by have := HLEN.out.2; unfold maxLen; omega) (by have := HLEN.out.2; omega) (by have := hB2.size; omega) ?_; intro v3 w3 hown3 hgrow3 hat3; have hB3 : Below wr.heap.size wr w3 := hB2.grown hgrow3 (by have := hB2.size; omega) (fun k hk => (hown2.blk k hk).1)))
      go_ret
      exact ⟨v3, rfl, by simpa [insZ] using hown3, hB3⟩
  · have kg : Blk w g cur 3 := hg
    have hcell : ∀ k (hk : k < zs.length), w.cell? ⟨g, off + k, none⟩ = some (.int .i64 zs[k]) := fun k hk => by
      rw [hv] at hs
      rw [hs.at k (by omega)]
      simp [hk]
    have hgl := kg.lt
    subst hv
    have HO := Lib.hid ho
    have HCell := Lib.hid hcell
    have HS := Lib.hid hs
    clear hcx hsz hcell hs
    go_enter Try.func53, Try.ntmps53
    go_wp2_with fail
    go_loopg [5] (zs.length + 1) (fun gk v wr => wr = w ∧ ∃ k : Nat, k ≤ zs.length ∧ zs.length < k + gk ∧ v = .int .i64 k ∧ ∀ z ∈ zs.take k, z ≤ x)
    case atStart => exact ⟨rfl, 0, by omega, by omega, rfl, by simp⟩
    case round =>
      obtain ⟨rfl, k, hk, hgk, rfl, hle⟩ := hrel
      have HLE := Lib.hid hle
      clear hle
      by_cases hcont : k < zs.length ∧ zs.getD k 0 ≤ x
      · obtain ⟨hkl, hzx⟩ := hcont
        have hc := HCell.out k hkl
        have e1 : zs.getD k 0 = zs[k] := by simp [hkl]
        rw [e1] at hzx
        have HN : Hid (∀ z ∈ zs.take (k + 1), z ≤ x) := Lib.hid (fun z hz => by
          rw [List.take_succ_eq_append_getElem hkl] at hz
          rcases List.mem_append.1 hz with hz | hz
          · exact HLE.out z hz
          · rw [List.mem_singleton.1 hz]; exact hzx)
        have hki : (k : Int) < (zs.length : Int) := by omega
        generalize zs[k] = y at *
        clear e1
        go_wp2_with fail
        go_roundg (zs.length - k)
        case measure => omega
        case rel => exact ⟨rfl, k + 1, by omega, by omega, by go_num, HN.out⟩
      · have hD : Hid (∀ z ∈ zs.drop k, x < z) := Lib.hid (by
          intro z hz
          by_cases e : k < zs.length
          · have h1 : x < zs.getD k 0 := by
              by_cases h : zs.getD k 0 ≤ x
              · exact absurd ⟨e, h⟩ hcont
              · omega
            have e1 : zs.getD k 0 = zs[k] := by simp [e]
            rw [e1] at h1
            rw [List.drop_eq_getElem_cons e] at hz
            rcases List.mem_cons.1 hz with rfl | hz
            · exact h1
            · have h2 : (zs.drop k).Pairwise (· ≤ ·) := HO.out.sublist (List.drop_sublist _ _)
              rw [List.drop_eq_getElem_cons e, List.pairwise_cons] at h2
              have := h2.1 z hz
              omega
          · rw [List.drop_of_length_le (by omega)] at hz
            exact absurd hz (List.not_mem_nil))
        have HPE := Lib.hid (put_eq zs x k HO.out hk HLE.out hD.out)
        have HLEN : Hid ((ints (zs.take k)).length = k ∧ (ints (zs.drop k)).length = zs.length - k) := Lib.hid ⟨by simp; omega, by simp⟩
        have hx1 : SlAt wr.heap.size wr 3 (.slice (some ⟨g, off, none⟩) k cap) (ints (zs.take k)) := by
          refine ⟨_, cap, by rw [HLEN.out.1], by rw [HLEN.out.1]; omega, hcm, .inr ⟨g, off, rfl, hgl, .inl hgl, fun j hj => ?_⟩⟩
          rw [HLEN.out.1] at hj
          rw [HCell.out j (by omega)]
          simp
        have hkc : (k : Int) ≤ (cap : Int) := by omega
        have hkn : (k : Int) ≤ (zs.length : Int) := by omega
        have hfin : ∀ v3 w3, Seg w3 wr.heap.size 3 1 v3 (k + 1 + (ints (zs.drop k)).length) (ints (zs.take k) ++ [.int .i64 x] ++ ints (zs.drop k)) → Below wr.heap.size wr w3 → PutP zs x wr (.returned v3) w3 := fun v3 w3 h3 h4 => by
          refine ⟨v3, rfl, ?_, h4⟩
          rw [HLEN.out.2, show k + 1 + (zs.length - k) = zs.length + 1 by omega] at h3
          rw [← HPE.out]
          simpa using h3
        have HFin := Lib.hid hfin
        clear hfin
        by_cases hkl : k < zs.length
        · have hki : (k : Int) < (zs.length : Int) := by omega
          have hc := HCell.out k hkl
          have hyx : ¬ zs[k] ≤ x := by
            intro h
            exact hcont ⟨hkl, by simpa [hkl] using h⟩
          generalize zs[k] = y at *
          have hx2 : SlAt wr.heap.size wr 3 (.slice (some ⟨g, off + k, none⟩) (zs.length - k) (cap - k)) (ints (zs.drop k)) := by
            refine ⟨_, cap - k, by rw [HLEN.out.2], by rw [HLEN.out.2]; omega, by omega, .inr ⟨g, off + k, rfl, hgl, .inl hgl, fun j hj => ?_⟩⟩
            rw [HLEN.out.2] at hj
            rw [Nat.add_assoc, HCell.out (k + j) (by omega)]
            simp
          clear hcont HS HLE
          have hbz : wr.heap.size ≤ wr.heap.size := Nat.le_refl _
          go_wp2_with (first
            | (at_builtin; refine wpList_append_sl rfl (.tmp 21) (.tmp 24) 29 rfl wr.heap.size wr.heap.size 3 3 i0 _ 8 Try.underlying29 hi hz0 hz1 hz2 rfl (.slice none 0 0) 0 [] rfl (Seg.nil _ _ _ _) (.slice (some ⟨g, off, none⟩) k cap) (ints (zs.take k)) rfl hx1 ints_one (by have := HLEN.out.1; unfold maxLen; omega) (by have := HLEN.out.1; omega) hbz ?_; intro v1 w1 hown1 hgrow1 hat1; rw [Nat.zero_add, List.nil_append, HLEN.out.1] at hown1; have hB1 := below_of_grown hgrow1; obtain ⟨a1, c1, rfl⟩ := hown1.form)
            | (at_builtin; refine wpList_append_seg _ rfl (.tmp 26) (.tmp 28) 29 rfl wr.heap.size 3 i0 _ 1 8 Try.underlying29 hi hz0 hz1 hz2 rfl (by decide) (.slice a1 k c1) k (ints (zs.take k)) rfl (hown1.alloc _) ⟨w1.heap.size, 0, none⟩ 1 1 [.int .i64 x] rfl rfl (cells_new _ _ _) (by simp [Value.oneCell']) (by decide) (by unfold maxLen; omega) (by omega) (by have := hB1.size; simp; omega) (w1.heap.size + 1) (size_alloc _ _) ?_; intro g2 o2 c2 w2 hown2 hgrow2 hat2; have hB2 : Below wr.heap.size wr w2 := (Below.chainAlloc hB1 _).grown hgrow2 (by have := hB1.size; simp; omega) (fun k hk => (hown1.blk k hk).1))
            | (at_builtin; (refine wpList_append_sl rfl (.tmp 30) (.tmp 33) 29 rfl wr.heap.size wr.heap.size 3 3 i0 _ 8 Try.underlying29 hi hz0 hz1 hz2 rfl (.slice (some ⟨g2, o2, none⟩) (k + 1) c2) (k + 1) _ rfl hown2 (.slice (some ⟨g, off + k, none⟩) (zs.length - k) (cap - k)) (ints (zs.drop k)) rfl (SlAt.chain hx2 hB2) ints_one (by have := HLEN.out.2; unfold maxLen; omega) (by have := HLEN.out.2; omega) (by have := hB2.size; omega) ?_; intro v3 w3 hown3 hgrow3 hat3; have hB3 : Below wr.heap.size wr w3 := hB2.grown hgrow3 (by have := hB2.size; omega) (fun k hk => (hown2.blk k hk).1))))
          go_ret
          exact HFin.out _ _ hown3 hB3
        · have hnl : ¬ (k : Int) < (zs.length : Int) := by omega
          have hd0 : ints (zs.drop k) = [] := by rw [List.drop_of_length_le (by omega)]; rfl
          have HH := Lib.hid (And.intro (show zs.length - k = 0 by omega) (show k = zs.length by omega))
          clear hcont HS HLE hkl
          by_cases hcap : k < cap
          · have hx2 : SlAt wr.heap.size wr 3 (.slice (some ⟨g, off + k, none⟩) (zs.length - k) (cap - k)) (ints (zs.drop k)) := ⟨_, cap - k, by rw [HLEN.out.2], by rw [HLEN.out.2]; omega, by omega, .inl hd0⟩
            clear hd0
            have hbz : wr.heap.size ≤ wr.heap.size := Nat.le_refl _
            go_wp2_with (first
              | (at_builtin; refine wpList_append_sl rfl (.tmp 21) (.tmp 24) 29 rfl wr.heap.size wr.heap.size 3 3 i0 _ 8 Try.underlying29 hi hz0 hz1 hz2 rfl (.slice none 0 0) 0 [] rfl (Seg.nil _ _ _ _) (.slice (some ⟨g, off, none⟩) k cap) (ints (zs.take k)) rfl hx1 ints_one (by have := HLEN.out.1; unfold maxLen; omega) (by have := HLEN.out.1; omega) hbz ?_; intro v1 w1 hown1 hgrow1 hat1; rw [Nat.zero_add, List.nil_append, HLEN.out.1] at hown1; have hB1 := below_of_grown hgrow1; obtain ⟨a1, c1, rfl⟩ := hown1.form)
              | (at_builtin; refine wpList_append_seg _ rfl (.tmp 26) (.tmp 28) 29 rfl wr.heap.size 3 i0 _ 1 8 Try.underlying29 hi hz0 hz1 hz2 rfl (by decide) (.slice a1 k c1) k (ints (zs.take k)) rfl (hown1.alloc _) ⟨w1.heap.size, 0, none⟩ 1 1 [.int .i64 x] rfl rfl (cells_new _ _ _) (by simp [Value.oneCell']) (by decide) (by unfold maxLen; omega) (by omega) (by have := hB1.size; simp; omega) (w1.heap.size + 1) (size_alloc _ _) ?_; intro g2 o2 c2 w2 hown2 hgrow2 hat2; have hB2 : Below wr.heap.size wr w2 := (Below.chainAlloc hB1 _).grown hgrow2 (by have := hB1.size; simp; omega) (fun k hk => (hown1.blk k hk).1))
              | (at_builtin; (refine wpList_append_sl rfl (.tmp 30) (.tmp 33) 29 rfl wr.heap.size wr.heap.size 3 3 i0 _ 8 Try.underlying29 hi hz0 hz1 hz2 rfl (.slice (some ⟨g2, o2, none⟩) (k + 1) c2) (k + 1) _ rfl hown2 (.slice (some ⟨g, off + k, none⟩) (zs.length - k) (cap - k)) (ints (zs.drop k)) rfl (SlAt.chain hx2 hB2) ints_one (by have := HLEN.out.2; unfold maxLen; omega) (by have := HLEN.out.2; omega) (by have := hB2.size; omega) ?_; intro v3 w3 hown3 hgrow3 hat3; have hB3 : Below wr.heap.size wr w3 := hB2.grown hgrow3 (by have := hB2.size; omega) (fun k hk => (hown2.blk k hk).1))))
            go_ret
            exact HFin.out _ _ hown3 hB3
          · obtain rfl : cap = k := by have := HH.out.2; omega
            have hx2 : SlAt wr.heap.size wr 3 (.slice (some ⟨g, off, none⟩) 0 0) (ints (zs.drop cap)) := ⟨_, 0, by rw [HLEN.out.2, HH.out.1], by rw [HLEN.out.2]; have := HH.out.1; omega, by omega, .inl hd0⟩
            clear hd0 hcap
            have hbz : wr.heap.size ≤ wr.heap.size := Nat.le_refl _
            go_wp2_with (first
              | (at_builtin; refine wpList_append_sl rfl (.tmp 21) (.tmp 24) 29 rfl wr.heap.size wr.heap.size 3 3 i0 _ 8 Try.underlying29 hi hz0 hz1 hz2 rfl (.slice none 0 0) 0 [] rfl (Seg.nil _ _ _ _) (.slice (some ⟨g, off, none⟩) cap cap) (ints (zs.take cap)) rfl hx1 ints_one (by have := HLEN.out.1; unfold maxLen; omega) (by have := HLEN.out.1; omega) hbz ?_; intro v1 w1 hown1 hgrow1 hat1; rw [Nat.zero_add, List.nil_append, HLEN.out.1] at hown1; have hB1 := below_of_grown hgrow1; obtain ⟨a1, c1, rfl⟩ := hown1.form)
              | (at_builtin; refine wpList_append_seg _ rfl (.tmp 26) (.tmp 28) 29 rfl wr.heap.size 3 i0 _ 1 8 Try.underlying29 hi hz0 hz1 hz2 rfl (by decide) (.slice a1 cap c1) cap (ints (zs.take cap)) rfl (hown1.alloc _) ⟨w1.heap.size, 0, none⟩ 1 1 [.int .i64 x] rfl rfl (cells_new _ _ _) (by simp [Value.oneCell']) (by decide) (by unfold maxLen; omega) (by omega) (by have := hB1.size; simp; omega) (w1.heap.size + 1) (size_alloc _ _) ?_; intro g2 o2 c2 w2 hown2 hgrow2 hat2; have hB2 : Below wr.heap.size wr w2 := (Below.chainAlloc hB1 _).grown hgrow2 (by have := hB1.size; simp; omega) (fun k hk => (hown1.blk k hk).1))
              | (at_builtin; (refine wpList_append_sl rfl (.tmp 30) (.tmp 33) 29 rfl wr.heap.size wr.heap.size 3 3 i0 _ 8 Try.underlying29 hi hz0 hz1 hz2 rfl (.slice (some ⟨g2, o2, none⟩) (cap + 1) c2) (cap + 1) _ rfl hown2 (.slice (some ⟨g, off, none⟩) 0 0) (ints (zs.drop cap)) rfl (SlAt.chain hx2 hB2) ints_one (by have := HLEN.out.2; unfold maxLen; omega) (by have := HLEN.out.2; omega) (by have := hB2.size; omega) ?_; intro v3 w3 hown3 hgrow3 hat3; have hB3 : Below wr.heap.size wr w3 := hB2.grown hgrow3 (by have := hB2.size; omega) (fun k hk => (hown2.blk k hk).1))))
            go_ret
            exact HFin.out _ _ hown3 hB3
end Go.Proofs.Ytdjjienklfbalaa
