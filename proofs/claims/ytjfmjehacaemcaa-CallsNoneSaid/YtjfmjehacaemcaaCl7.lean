/-
  Calls that wait: the document's Drop (chapter 29).
-/
import Derived.Test.YtjfmjehacaemcaaCl6
namespace Go.Proofs.Ytjfmjehacaemcaa
open Go Go.RowKit
set_option linter.unusedVariables false
set_option maxRecDepth 100000
set_option maxHeartbeats 4000000
/-- The answer of the document's Drop: those, and the others. -/
def RDrop29 (p : Wt → Bool) (xs : List Wt) (w : World) (e : Ending) (w' : World) : Prop :=
  ∃ v1 v2, e = .returned (.tuple #[v1, v2]) ∧ Seg w' w.heap.size 30 5 v1 (xs.filter p).length (wtS (xs.filter p)) ∧ Seg w' w.heap.size 30 5 v2 (xs.filter fun d => !p d).length (wtS (xs.filter fun d => !p d)) ∧ Below w.heap.size w w'
theorem rdrop29_any (s kd : Int) (p : Wt → Bool) (base : Nat) (v : Value) (xs : List Wt) (w : World) (hs : Seg w base 30 5 v xs.length (wtS xs)) (hl : xs.length ≤ 1000) (hp : ∀ d : Wt, p d = true ↔ d.stream = s ∧ (kd = 0 ∨ d.kind = kd)) :
    Calls Try.prog 12 #[v, .int .i64 s, .int .i64 kd] w (RDrop29 p xs w) := by
  obtain ⟨i0, hi, hz0, hz1, hz2⟩ := info_parts infoWait
  obtain ⟨ao, cap, rfl⟩ := hs.form
  have HS := Lib.hid hs
  have HP := Lib.hid hp
  have hmx : xs.length ≤ 9223372036854775807 := by omega
  clear hs hp
  go_enter Try.func12, Try.ntmps12
  go_wp2_with fail
  go_loopw [8, 9, 10] (fun v1 v2 i wr => ∃ (j : Nat) (X Y : List Wt), j ≤ xs.length ∧ i = .int .i64 j ∧ X.length ≤ j ∧ Y.length ≤ j ∧ Hid (X = (xs.take j).filter p) ∧ Hid (Y = (xs.take j).filter (fun d => !p d)) ∧ Hid (Seg wr w.heap.size 30 5 v1 X.length (wtS X)) ∧ Hid (Seg wr w.heap.size 30 5 v2 Y.length (wtS Y)) ∧ Hid (∀ g, v1.ownBlock = some g → v2.ownBlock = some g → False) ∧ Hid (Below w.heap.size w wr)) (fun _ _ i _ => xs.length - (intOf i).toNat)
  case atStart => exact ⟨0, [], [], Nat.zero_le _, rfl, Nat.le_refl _, Nat.le_refl _, Lib.hid rfl, Lib.hid rfl, Lib.hid (Seg.nil _ _ _ _), Lib.hid (Seg.nil _ _ _ _), Lib.hid (fun g h => by cases h), Lib.hid (Below.refl _ _)⟩
  case round =>
    obtain ⟨j, X, Y, hj, rfl, hxl, hyl, HX, HY, HSEG1, HSEG2, HNE, HB⟩ := hrel
    obtain ⟨a1, c1, rfl⟩ := HSEG1.out.form
    obtain ⟨a2, c2, rfl⟩ := HSEG2.out.form
    by_cases hlt : j < xs.length
    · have hsg := HS.out.chain HB.out
      obtain ⟨g, off, _, e, _⟩ := hsg.shape (by omega)
      cases e
      obtain ⟨c0', c1', c2', c3', c4'⟩ := hsg.wt hlt
      have hji : (j : Int) < (xs.length : Int) := by omega
      have htk := List.take_succ_eq_append_getElem hlt
      obtain ⟨d, hd⟩ : ∃ d, xs[j] = d := ⟨_, rfl⟩
      rw [hd] at c0' c1' c2' c3' c4' htk
      have HLT := Lib.hid hlt
      have HTK := Lib.hid htk
      obtain ⟨i, k2, s2, n, b⟩ := d
      dsimp only at c0' c1' c2' c3' c4'
      have hpp := HP.out ⟨i, k2, s2, n, b⟩
      dsimp only at hpp
      have HCN := Lib.hid (cells_new wr (wtC ⟨i, k2, s2, n, b⟩) 30)
      clear hsg hd htk hlt
      by_cases h1 : s2 = s
      · subst h1
        by_cases h2 : kd = 0
        · subst h2
          have HPP : p ⟨i, k2, s2, n, b⟩ = true := hpp.2 ⟨rfl, .inl rfl⟩
          clear hpp
          have HA1 : Hid (X ++ [⟨i, k2, s2, n, b⟩] = (xs.take (j + 1)).filter p) := Lib.hid (by rw [HTK.out, List.filter_append, List.filter_cons_of_pos HPP, List.filter_nil, HX.out])
          have HA2 : Hid (Y = (xs.take (j + 1)).filter (fun d => !p d)) := Lib.hid (by rw [HTK.out, List.filter_append, List.filter_cons_of_neg (by simp [HPP]), List.filter_nil, List.append_nil, HY.out])
          clear HPP
          have HQ : Hid (X.length + 1 ≤ maxLen ∧ (X.length + 1) * 48 ≤ 140737488355328) := Lib.hid (by unfold maxLen; omega)
          go_wp2_with (at_builtin; refine wpList_append_seg _ rfl (.tmp 39) (.tmp 44) 26 rfl w.heap.size 30 i0 _ 5 48 Try.underlying26 hi hz0 hz1 hz2 rfl (by decide) (.slice a1 X.length c1) (X).length (wtS (X)) rfl (HSEG1.out.alloc _) ⟨wr.heap.size, 0, none⟩ 1 1 (wtC ⟨i, k2, s2, n, b⟩) rfl rfl HCN.out (one_wtC _) (by decide) HQ.out.1 HQ.out.2 (by simp; have := HB.out.size; omega) (wr.heap.size + 1) (by simp) ?_; intro g' off' cap' w5 hown hgrow hat)
          have hO5 : Only (Value.slice a1 X.length c1).ownBlock.toList wr w5 := Only.grown ((Only.refl _ _).alloc _) hgrow (fun x hx => .inl (by simp [hx]))
          have HSO := Lib.hid (HSEG2.out.only hO5 (fun g hg hm => HNE.out g (by simpa using hm) (by exact hg)))
          have HSM : Hid (Seg w5 w.heap.size 30 5 (.slice (some ⟨g', off', none⟩) (X.length + 1) cap') (X ++ [(⟨i, k2, s2, n, b⟩ : Wt)]).length (wtS (X ++ [(⟨i, k2, s2, n, b⟩ : Wt)]))) := Lib.hid (by rw [List.length_append, List.length_singleton, wtS_snoc]; exact hown)
          have HNE2 : Hid (∀ g, (Value.slice (some ⟨g', off', none⟩) (X.length + 1) cap').ownBlock = some g → (Value.slice a2 Y.length c2).ownBlock = some g → False) := Lib.hid (fun g h1 h2 => by
            rcases hat with hat | hat
            · exact HNE.out g (hat.trans (by simpa [Value.ownBlock] using h1)) h2
            · have := (HSEG2.out.blk g h2).2
              have e : g' = g := by simpa [Value.ownBlock] using h1
              omega)
          have HB5 := Lib.hid (Below.only HB.out hO5 (fun x hx => (HSEG1.out.blk x (by simpa using hx)).1))
          clear hown hgrow hat hO5 HSEG1 HSEG2 HB HNE HCN
          go_wp2_with fail
          go_roundw
          case measure => have := HLT.out; simp [intOf]; omega
          case rel => exact ⟨j + 1, X ++ [⟨i, k2, s2, n, b⟩], Y, HLT.out, by go_num, by rw [List.length_append, List.length_singleton]; omega, by omega, HA1, HA2, HSM, HSO, HNE2, HB5⟩
        · have h2b : (kd == 0) = false := beq_eq_false_iff_ne.2 h2
          by_cases h3 : k2 = kd
          · have HPP : p ⟨i, k2, s2, n, b⟩ = true := hpp.2 ⟨rfl, .inr h3⟩
            clear hpp h2
            subst h3
            have HA1 : Hid (X ++ [⟨i, k2, s2, n, b⟩] = (xs.take (j + 1)).filter p) := Lib.hid (by rw [HTK.out, List.filter_append, List.filter_cons_of_pos HPP, List.filter_nil, HX.out])
            have HA2 : Hid (Y = (xs.take (j + 1)).filter (fun d => !p d)) := Lib.hid (by rw [HTK.out, List.filter_append, List.filter_cons_of_neg (by simp [HPP]), List.filter_nil, List.append_nil, HY.out])
            clear HPP
            have HQ : Hid (X.length + 1 ≤ maxLen ∧ (X.length + 1) * 48 ≤ 140737488355328) := Lib.hid (by unfold maxLen; omega)
            go_wp2_with (at_builtin; refine wpList_append_seg _ rfl (.tmp 39) (.tmp 44) 26 rfl w.heap.size 30 i0 _ 5 48 Try.underlying26 hi hz0 hz1 hz2 rfl (by decide) (.slice a1 X.length c1) (X).length (wtS (X)) rfl (HSEG1.out.alloc _) ⟨wr.heap.size, 0, none⟩ 1 1 (wtC ⟨i, k2, s2, n, b⟩) rfl rfl HCN.out (one_wtC _) (by decide) HQ.out.1 HQ.out.2 (by simp; have := HB.out.size; omega) (wr.heap.size + 1) (by simp) ?_; intro g' off' cap' w5 hown hgrow hat)
            have hO5 : Only (Value.slice a1 X.length c1).ownBlock.toList wr w5 := Only.grown ((Only.refl _ _).alloc _) hgrow (fun x hx => .inl (by simp [hx]))
            have HSO := Lib.hid (HSEG2.out.only hO5 (fun g hg hm => HNE.out g (by simpa using hm) (by exact hg)))
            have HSM : Hid (Seg w5 w.heap.size 30 5 (.slice (some ⟨g', off', none⟩) (X.length + 1) cap') (X ++ [(⟨i, k2, s2, n, b⟩ : Wt)]).length (wtS (X ++ [(⟨i, k2, s2, n, b⟩ : Wt)]))) := Lib.hid (by rw [List.length_append, List.length_singleton, wtS_snoc]; exact hown)
            have HNE2 : Hid (∀ g, (Value.slice (some ⟨g', off', none⟩) (X.length + 1) cap').ownBlock = some g → (Value.slice a2 Y.length c2).ownBlock = some g → False) := Lib.hid (fun g h1 h2 => by
              rcases hat with hat | hat
              · exact HNE.out g (hat.trans (by simpa [Value.ownBlock] using h1)) h2
              · have := (HSEG2.out.blk g h2).2
                have e : g' = g := by simpa [Value.ownBlock] using h1
                omega)
            have HB5 := Lib.hid (Below.only HB.out hO5 (fun x hx => (HSEG1.out.blk x (by simpa using hx)).1))
            clear hown hgrow hat hO5 HSEG1 HSEG2 HB HNE HCN
            go_wp2_with fail
            go_roundw
            case measure => have := HLT.out; simp [intOf]; omega
            case rel => exact ⟨j + 1, X ++ [⟨i, k2, s2, n, b⟩], Y, HLT.out, by go_num, by rw [List.length_append, List.length_singleton]; omega, by omega, HA1, HA2, HSM, HSO, HNE2, HB5⟩
          · have h3b : (k2 == kd) = false := beq_eq_false_iff_ne.2 h3
            have HPP : p ⟨i, k2, s2, n, b⟩ = false := by
              cases hq : p ⟨i, k2, s2, n, b⟩ with
              | false => rfl
              | true => exact absurd (hpp.1 hq).2 (by rintro (h | h); exact h2 h; exact h3 h)
            clear hpp h2 h3
            have HA1 : Hid (X = (xs.take (j + 1)).filter p) := Lib.hid (by rw [HTK.out, List.filter_append, List.filter_cons_of_neg (by simp [HPP]), List.filter_nil, List.append_nil, HX.out])
            have HA2 : Hid (Y ++ [⟨i, k2, s2, n, b⟩] = (xs.take (j + 1)).filter (fun d => !p d)) := Lib.hid (by rw [HTK.out, List.filter_append, List.filter_cons_of_pos (by simp [HPP]), List.filter_nil, HY.out])
            clear HPP
            have HQ : Hid (Y.length + 1 ≤ maxLen ∧ (Y.length + 1) * 48 ≤ 140737488355328) := Lib.hid (by unfold maxLen; omega)
            go_wp2_with (at_builtin; refine wpList_append_seg _ rfl (.tmp 46) (.tmp 51) 26 rfl w.heap.size 30 i0 _ 5 48 Try.underlying26 hi hz0 hz1 hz2 rfl (by decide) (.slice a2 Y.length c2) (Y).length (wtS (Y)) rfl (HSEG2.out.alloc _) ⟨wr.heap.size, 0, none⟩ 1 1 (wtC ⟨i, k2, s2, n, b⟩) rfl rfl HCN.out (one_wtC _) (by decide) HQ.out.1 HQ.out.2 (by simp; have := HB.out.size; omega) (wr.heap.size + 1) (by simp) ?_; intro g' off' cap' w5 hown hgrow hat)
            have hO5 : Only (Value.slice a2 Y.length c2).ownBlock.toList wr w5 := Only.grown ((Only.refl _ _).alloc _) hgrow (fun x hx => .inl (by simp [hx]))
            have HSO := Lib.hid (HSEG1.out.only hO5 (fun g hg hm => HNE.out g (by exact hg) (by simpa using hm)))
            have HSM : Hid (Seg w5 w.heap.size 30 5 (.slice (some ⟨g', off', none⟩) (Y.length + 1) cap') (Y ++ [(⟨i, k2, s2, n, b⟩ : Wt)]).length (wtS (Y ++ [(⟨i, k2, s2, n, b⟩ : Wt)]))) := Lib.hid (by rw [List.length_append, List.length_singleton, wtS_snoc]; exact hown)
            have HNE2 : Hid (∀ g, (Value.slice a1 X.length c1).ownBlock = some g → (Value.slice (some ⟨g', off', none⟩) (Y.length + 1) cap').ownBlock = some g → False) := Lib.hid (fun g h1 h2 => by
              rcases hat with hat | hat
              · exact HNE.out g h1 (hat.trans (by simpa [Value.ownBlock] using h2))
              · have := (HSEG1.out.blk g h1).2
                have e : g' = g := by simpa [Value.ownBlock] using h2
                omega)
            have HB5 := Lib.hid (Below.only HB.out hO5 (fun x hx => (HSEG2.out.blk x (by simpa using hx)).1))
            clear hown hgrow hat hO5 HSEG1 HSEG2 HB HNE HCN
            go_wp2_with fail
            go_roundw
            case measure => have := HLT.out; simp [intOf]; omega
            case rel => exact ⟨j + 1, X, Y ++ [⟨i, k2, s2, n, b⟩], HLT.out, by go_num, by omega, by rw [List.length_append, List.length_singleton]; omega, HA1, HA2, HSO, HSM, HNE2, HB5⟩
      · have h1b : (s2 == s) = false := beq_eq_false_iff_ne.2 h1
        have HPP : p ⟨i, k2, s2, n, b⟩ = false := by
          cases hq : p ⟨i, k2, s2, n, b⟩ with
          | false => rfl
          | true => exact absurd (hpp.1 hq).1 h1
        clear hpp h1
        have HA1 : Hid (X = (xs.take (j + 1)).filter p) := Lib.hid (by rw [HTK.out, List.filter_append, List.filter_cons_of_neg (by simp [HPP]), List.filter_nil, List.append_nil, HX.out])
        have HA2 : Hid (Y ++ [⟨i, k2, s2, n, b⟩] = (xs.take (j + 1)).filter (fun d => !p d)) := Lib.hid (by rw [HTK.out, List.filter_append, List.filter_cons_of_pos (by simp [HPP]), List.filter_nil, HY.out])
        clear HPP
        have HQ : Hid (Y.length + 1 ≤ maxLen ∧ (Y.length + 1) * 48 ≤ 140737488355328) := Lib.hid (by unfold maxLen; omega)
        go_wp2_with (at_builtin; refine wpList_append_seg _ rfl (.tmp 46) (.tmp 51) 26 rfl w.heap.size 30 i0 _ 5 48 Try.underlying26 hi hz0 hz1 hz2 rfl (by decide) (.slice a2 Y.length c2) (Y).length (wtS (Y)) rfl (HSEG2.out.alloc _) ⟨wr.heap.size, 0, none⟩ 1 1 (wtC ⟨i, k2, s2, n, b⟩) rfl rfl HCN.out (one_wtC _) (by decide) HQ.out.1 HQ.out.2 (by simp; have := HB.out.size; omega) (wr.heap.size + 1) (by simp) ?_; intro g' off' cap' w5 hown hgrow hat)
        have hO5 : Only (Value.slice a2 Y.length c2).ownBlock.toList wr w5 := Only.grown ((Only.refl _ _).alloc _) hgrow (fun x hx => .inl (by simp [hx]))
        have HSO := Lib.hid (HSEG1.out.only hO5 (fun g hg hm => HNE.out g (by exact hg) (by simpa using hm)))
        have HSM : Hid (Seg w5 w.heap.size 30 5 (.slice (some ⟨g', off', none⟩) (Y.length + 1) cap') (Y ++ [(⟨i, k2, s2, n, b⟩ : Wt)]).length (wtS (Y ++ [(⟨i, k2, s2, n, b⟩ : Wt)]))) := Lib.hid (by rw [List.length_append, List.length_singleton, wtS_snoc]; exact hown)
        have HNE2 : Hid (∀ g, (Value.slice a1 X.length c1).ownBlock = some g → (Value.slice (some ⟨g', off', none⟩) (Y.length + 1) cap').ownBlock = some g → False) := Lib.hid (fun g h1 h2 => by
          rcases hat with hat | hat
          · exact HNE.out g h1 (hat.trans (by simpa [Value.ownBlock] using h2))
          · have := (HSEG1.out.blk g h1).2
            have e : g' = g := by simpa [Value.ownBlock] using h2
            omega)
        have HB5 := Lib.hid (Below.only HB.out hO5 (fun x hx => (HSEG2.out.blk x (by simpa using hx)).1))
        clear hown hgrow hat hO5 HSEG1 HSEG2 HB HNE HCN
        go_wp2_with fail
        go_roundw
        case measure => have := HLT.out; simp [intOf]; omega
        case rel => exact ⟨j + 1, X, Y ++ [⟨i, k2, s2, n, b⟩], HLT.out, by go_num, by omega, by rw [List.length_append, List.length_singleton]; omega, HA1, HA2, HSO, HSM, HNE2, HB5⟩
    · obtain rfl : j = xs.length := by omega
      have hlt' : ¬ (xs.length : Int) < (xs.length : Int) := by omega
      rw [List.take_length] at HX HY
      go_wp2_with fail
      go_ret2
      refine ⟨.slice a1 X.length c1, .slice a2 Y.length c2, rfl, ?_, ?_, HB.out⟩
      · rw [← HX.out]; exact HSEG1.out
      · rw [← HY.out]; exact HSEG2.out
end Go.Proofs.Ytjfmjehacaemcaa
