/-
  The document's queues (lightshipref17): without.
-/
import Derived.Test.YtgfbhclkpephnaaDrD2
namespace Go.Proofs.Ytgfbhclkpephnaa
open Go Go.RowKit
set_option linter.unusedVariables false
set_option linter.unusedSimpArgs false
set_option maxRecDepth 100000
set_option maxHeartbeats 1000000
def wo (id : Int) (l : List Int) : List Int := l.filter fun x => !(x == id)
theorem wo_step (id : Int) (l : List Int) (k : Nat) (hk : k < l.length) : wo id (l.take (k + 1)) = if l[k] = id then wo id (l.take k) else wo id (l.take k) ++ [l[k]] := by
  unfold wo
  rw [List.take_succ_eq_append_getElem hk, List.filter_append]
  by_cases h : l[k] = id
  · rw [if_pos h]; simp [List.filter, h]
  · rw [if_neg h]; simp [List.filter, beq_eq_false_iff_ne.2 h]
theorem wo_len (id : Int) (l : List Int) (k : Nat) : (wo id (l.take k)).length ≤ k := Nat.le_trans (List.length_filter_le _ _) (List.length_take_le _ _)
theorem infoIntD : (Try.prog.info? 3).map (fun i => (i.zero, i.size, i.bytes)) = some (some (.int .i64 0), 1, 8) := by kernel_rfl
theorem rwo_any (id : Int) {rv : Value} {l : List Int} (w : World) (h : Seg w 0 3 1 rv l.length (iv l)) (hl : l.length ≤ 300) :
    Calls Try.prog 81 #[rv, .int .i64 id] w fun e w' => ∃ v, e = .returned v ∧ Seg w' w.heap.size 3 1 v (wo id l).length (iv (wo id l)) ∧ Below w.heap.size w w' := by
  obtain ⟨a, cp, rfl⟩ := h.form
  obtain ⟨i0, hi, hz0, hz1, hz2⟩ := info_parts infoIntD
  obtain ⟨n, hn⟩ : ∃ n, l.length = n := ⟨_, rfl⟩
  have HN := Lib.hid hn
  rw [hn] at h hl ⊢
  have HR := Lib.hid h
  have HL := Lib.hid hl
  have HS0 : Hid (Seg w w.heap.size 3 1 (.slice none 0 0) (wo id (l.take 0)).length (iv (wo id (l.take 0)))) := Lib.hid (Seg.nil _ _ _ _)
  have HB0 := Lib.hid (Below.refl w.heap.size w)
  clear h hl hn
  go_enter Try.func81, Try.ntmps81
  go_wp2_with fail
  go_loopw [5, 6] (fun o i wr => ∃ (k : Nat) (v : Value), k ≤ n ∧ v = o ∧ i = .int .i64 (k : Nat) ∧ Hid (Seg wr w.heap.size 3 1 v (wo id (l.take k)).length (iv (wo id (l.take k)))) ∧ Hid (Below w.heap.size w wr)) (fun _ i _ => n - (intOf i).toNat)
  case atStart => exact ⟨0, _, Nat.zero_le _, rfl, rfl, HS0, HB0⟩
  case round =>
    clear HS0 HB0
    obtain ⟨k, v, hk, rfl, rfl, HS, HB⟩ := hrel
    by_cases hlt : k < n
    · have hlt' : (k : Int) < (n : Int) := Int.ofNat_lt.2 hlt
      have hk0 : (0 : Int) ≤ (k : Int) := by omega
      have HK := Lib.hid hlt
      have hkl : k < l.length := by rw [HN.out]; exact hlt
      obtain ⟨g, off, cap, ea, _⟩ := HR.out.shape (Nat.zero_lt_of_lt hlt)
      cases ea
      have d0 := (HR.out.chain HB.out).at k (by omega)
      rw [show (iv l)[k]? = some (.int .i64 l[k]) by simp [iv, hkl]] at d0
      have HST := Lib.hid (wo_step id l k hkl)
      have hlen := wo_len id l k
      generalize l[k] = x at d0 HST
      have hkw := kw17 k n hlt HL.out
      have HKW := Lib.hid hkw
      by_cases hx : x = id
      · have hb : (x != id) = false := by rw [hx]; simp
        have HS2 := HST.out
        rw [if_pos hx] at HS2
        have HS3 := Lib.hid HS2
        clear HS2 hx hlen
        go_wp2_with fail
        go_roundw
        case measure => rw [hkw]; clear hkw; have := HK.out; simp [intOf]; omega
        case rel => exact ⟨k + 1, _, HK.out, rfl, by rw [hkw]; clear hkw; go_num, by rw [HS3.out]; exact HS, HB⟩
      · have hb : (x != id) = true := by simp [hx]
        have HS2 := HST.out
        rw [if_neg hx] at HS2
        have HS3 := Lib.hid HS2
        clear HS2 hx hkw
        obtain ⟨av, cv, hv⟩ := HS.out.form
        subst hv
        have hbl : w.heap.size ≤ wr.heap.size + 1 := by have := HB.out.size; omega
        have hm1 : (wo id (l.take k)).length + 1 ≤ maxLen := by have := HL.out; simp only [maxLen]; omega
        have hm2 : ((wo id (l.take k)).length + 1) * 8 ≤ 140737488355328 := by have := HL.out; omega
        go_wp2_with (at_builtin; refine wpList_append_seg _ rfl (.tmp 19) (.tmp 24) 29 rfl w.heap.size 3 i0 _ 1 8 Try.underlying29 hi hz0 hz1 hz2 rfl (by decide) (.slice av (wo id (l.take k)).length cv) (wo id (l.take k)).length (iv (wo id (l.take k))) rfl (HS.out.alloc _) ⟨wr.heap.size, 0, none⟩ 1 1 [.int .i64 x] rfl rfl (cells_new _ _ _) (by simp [Value.oneCell']) (by decide) hm1 hm2 (by rw [size_alloc]; exact hbl) (wr.heap.size + 1) (size_alloc _ _) ?_; intro g2 off2 cap2 w3 hown hgrow hat)
        have hO : Only (Value.slice av (wo id (l.take k)).length cv).ownBlock.toList wr w3 := Only.grown (S := (Value.slice av (wo id (l.take k)).length cv).ownBlock.toList) (Only.alloc (Only.refl _ wr) _) hgrow (fun x hx => .inl (by rw [hx]; simp))
        have hb2 : Below w.heap.size wr w3 := Only.below hO HB.out.size (fun x hx => (HS.out.blk x (by simpa using hx)).1)
        have HB3 := Lib.hid (HB.out.trans hb2)
        have HS4 : Hid (Seg w3 w.heap.size 3 1 (.slice (some ⟨g2, off2, none⟩) ((wo id (l.take k)).length + 1) cap2) (wo id (l.take (k + 1))).length (iv (wo id (l.take (k + 1))))) := Lib.hid (by
          rw [HS3.out, List.length_append, show iv (wo id (l.take k) ++ [x]) = iv (wo id (l.take k)) ++ [.int .i64 x] by simp [iv]]
          exact hown)
        clear hO hb2 hown hgrow hat hm1 hm2 hbl hlen
        have hkw := HKW.out
        go_roundw
        case measure => (first | rw [hkw] | skip); clear hkw; have := HK.out; simp [intOf]; omega
        case rel => exact ⟨k + 1, _, HK.out, rfl, by first | (rw [hkw]; clear hkw; go_num) | (clear hkw; go_num), HS4, HB3⟩
    · obtain rfl : k = n := Nat.le_antisymm hk (Nat.le_of_not_lt hlt)
      have hlt' : ¬ (k : Int) < (k : Int) := Int.lt_irrefl _
      have HS2 := HS.out
      rw [List.take_of_length_le (by rw [HN.out]; exact Nat.le_refl _)] at HS2
      have HS3 := Lib.hid HS2
      clear hk hlt HS2
      go_wp2_with fail
      go_ret
      exact ⟨_, rfl, HS3.out, HB.out⟩
end Go.Proofs.Ytgfbhclkpephnaa
