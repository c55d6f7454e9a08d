/-
  Scripts: steps are read: the document's contract (chapter 33).
-/
import Derived.Test.YtdjjienklfbalaaScs3
namespace Go.Proofs.Ytdjjienklfbalaa
open Go.RowKit
set_option linter.unusedVariables false
set_option maxRecDepth 100000
set_option maxHeartbeats 1000000
theorem rread_s (l : List UInt8) (hl : l.length ≤ 9223372036854775807) (w : World) : Calls Try.prog 41 #[Str l] w (ReadP 160 l w) := by
  obtain ⟨i0, hi, hz0, hz1, hz2⟩ := info_parts infoAct
  have HRA : Hid (readA l = rdL (l.length + 1) l []) := Lib.hid rfl
  go_enter Try.func41, Try.ntmps41
  go_wp2_with fail
  have k0 := Blk.new w #[Str l, .int .i64 0] 179
  have hb0 := Below.chainAlloc (Below.refl w.heap.size w) (.cells #[Str l, .int .i64 0] 179)
  go_loopg [4] (l.length + 1) (fun gk v wr => ∃ (l' : List UInt8) (out : List Ac), l'.length < gk ∧ l'.length ≤ l.length ∧ rdL gk l' out = readA l ∧ out.length ≤ 1024 ∧ Blk wr w.heap.size #[Str l', .int .i64 0] 179 ∧ Seg wr (w.heap.size + 1) 160 8 v out.length (out.flatMap Ac.vals) ∧ Below w.heap.size w wr)
  case atStart => exact ⟨l, [], Nat.lt_succ_self _, Nat.le_refl _, HRA.out.symm, by simp, k0, Seg.nil _ _ _ _, hb0⟩
  case round =>
    obtain ⟨l', out, hfu, hll, heq, hol, kr, hs, hB⟩ := hrel
    have HEQ := Lib.hid heq
    obtain ⟨ah, ch, rfl⟩ := hs.form
    obtain ⟨f, rfl⟩ : ∃ f, gk = f + 1 := ⟨gk - 1, by omega⟩
    clear heq
    obtain ⟨cr, fr, lr⟩ := kr.facts
    by_cases hl' : l' = []
    · have HX := Lib.hid (show readA l = some out by rw [← HEQ.out, hl', rdL, if_pos rfl])
      subst hl'
      go_wp2_with fail
      go_ret2
      exact readP_ok HX.out hB (hs.le (by omega))
    · have HN := Lib.hid (show readA l = if (oneC l').2.2 ≠ 0 ∨ mayA (oneC l').1 = false ∨ out.length = 1024 then none else rdL f (oneC l').2.1 (out ++ [(oneC l').1]) by rw [← HEQ.out, rdL_step hl'])
      have HLS := Lib.hid (one_less (l := l'))
      have HO := Lib.hid (rstep_s l' (by omega))
      clear HEQ
      obtain ⟨x0, t0, rfl⟩ : ∃ x t, l' = x :: t := by
        cases l' with
        | nil => exact absurd rfl hl'
        | cons x t => exact ⟨x, t, rfl⟩
      clear hl'
      go_wp2_with fail
      refine (HO.out _).mono ?_
      rintro e w2 ⟨rfl, hb⟩
      have kr2 := kr.below hb lr
      have hs2 := hs.chain hb
      have hB2 := Below.chain hb hB
      clear hb hs hB HO kr cr fr lr
      generalize hone : oneC (x0 :: t0) = O at *
      clear hone
      obtain ⟨⟨kind, side, ck, cs, cn, cb, n, raw⟩, l2, e2⟩ := O
      simp only at HN HLS
      have kr3 := (kr2.alloc (.cells #[Str l2, .int .i64 e2] 179)).alloc (.cells #[.int .i64 kind, .int .i64 side, .int .i64 ck, .int .i64 cs, .int .i64 cn, Str cb, .int .i64 n, Str raw] 160)
      have hs3 := (hs2.alloc (.cells #[Str l2, .int .i64 e2] 179)).alloc (.cells #[.int .i64 kind, .int .i64 side, .int .i64 ck, .int .i64 cs, .int .i64 cn, Str cb, .int .i64 n, Str raw] 160)
      have hB3 := Below.chainAlloc (Below.chainAlloc hB2 (.cells #[Str l2, .int .i64 e2] 179)) (.cells #[.int .i64 kind, .int .i64 side, .int .i64 ck, .int .i64 cs, .int .i64 cn, Str cb, .int .i64 n, Str raw] 160)
      have kq3 := (Blk.new w2 #[Str l2, .int .i64 e2] 179).alloc (.cells #[.int .i64 kind, .int .i64 side, .int .i64 ck, .int .i64 cs, .int .i64 cn, Str cb, .int .i64 n, Str raw] 160)
      have ka3 := Blk.newAt (n := w2.heap.size + 1) (w := w2.alloc (.cells #[Str l2, .int .i64 e2] 179)) (cs := #[.int .i64 kind, .int .i64 side, .int .i64 ck, .int .i64 cs, .int .i64 cn, Str cb, .int .i64 n, Str raw]) (t := 160) (by simp)
      have hlw : w.heap.size < w2.heap.size := kr2.lt
      clear kr2 hs2 hB2
      by_cases he : e2 = 0
      · subst he
        have HM := Lib.hid (fun w => rmay_s ⟨kind, side, ck, cs, cn, cb, n, raw⟩ w)
        go_wp2_with fail
        refine (HM.out _).mono ?_
        rintro e w5 ⟨rfl, hb⟩
        have kr5 := kr3.below hb kr3.lt
        have kq5 := kq3.below hb kq3.lt
        have ka5 := ka3.below hb ka3.lt
        have hs5 := hs3.chain hb
        have hB5 := Below.chain hb hB3
        clear kr3 kq3 ka3 hs3 hB3 hb HM
        cases hmd : mayA ⟨kind, side, ck, cs, cn, cb, n, raw⟩ with
        | false =>
          have HX := Lib.hid (show readA l = none by rw [HN.out, if_pos (.inr (.inl hmd))])
          clear hmd
          go_wp2_with fail
          go_ret2
          exact readP_no HX.out hB5
        | true =>
          by_cases h24 : out.length = 1024
          · have HX := Lib.hid (show readA l = none by rw [HN.out, if_pos (.inr (.inr h24))])
            have d24 : ((out.length : Int) == 1024) = true := by simp; omega
            clear hmd h24
            go_wp2_with fail
            go_ret2
            exact readP_no HX.out hB5
          · have HX := Lib.hid (show rdL f l2 (out ++ [⟨kind, side, ck, cs, cn, cb, n, raw⟩]) = readA l by
              rw [HN.out, if_neg]
              rintro (h | h | h)
              · exact h rfl
              · rw [hmd] at h; cases h
              · exact h24 h)
            have hls := HLS.out trivial
            have d24 : ((out.length : Int) == 1024) = false := by simp; omega
            have hol2 : out.length + 1 ≤ 1024 := by omega
            clear hmd h24 HN HLS
            have hbs : w.heap.size + 1 ≤ w5.heap.size := kr5.lt
            have kr6 := upd2 kr5 (Str l2) (.int .i64 0)
            have ka6 := oth2 ka5 (g := w.heap.size) (Str l2) (.int .i64 0) (by omega)
            have hB6 := bel2 hB5 (g := w.heap.size) (Str l2) (.int .i64 0) (Nat.le_refl _)
            have hs6 := hs5.only (show Only [w.heap.size] w5 ((w5.setCell ⟨w.heap.size, 0, none⟩ (Str l2)).setCell ⟨w.heap.size, 1, none⟩ (.int .i64 0)) from ((Only.refl _ _).setCell ⟨w.heap.size, 0, none⟩ _ (.inl (by simp))).setCell ⟨w.heap.size, 1, none⟩ _ (.inl (by simp))) (fun g hg => by have := (hs5.blk g hg).1; simp; omega)
            have hsz6 : ((w5.setCell ⟨w.heap.size, 0, none⟩ (Str l2)).setCell ⟨w.heap.size, 1, none⟩ (.int .i64 0)).heap.size = w5.heap.size := by simp
            obtain ⟨cq, fq, lq⟩ := kq5.facts
            obtain ⟨cr5, fr5, lr5⟩ := kr5.facts
            go_upto_region 8 with fail
            clear cq fq lq cr5 fr5 lr5
            clear kr5 ka5 hB5 hs5 kq5
            generalize ((w5.setCell ⟨w.heap.size, 0, none⟩ (Str l2)).setCell ⟨w.heap.size, 1, none⟩ (.int .i64 0)) = w6 at *
            rw [← hsz6] at hbs
            clear hsz6
            obtain ⟨c5, f5, l5⟩ := ka6.facts
            go_wp2_with (at_builtin; refine wpList_append_seg _ rfl (.tmp 32) (.tmp 34) 68 rfl (w.heap.size + 1) 160 i0 _ 8 80 Try.underlying68 hi hz0 hz1 hz2 rfl (by decide) (.slice ah out.length ch) out.length (out.flatMap Ac.vals) rfl (hs6.alloc _) ⟨w6.heap.size, 0, none⟩ 1 1 (Ac.vals ⟨kind, side, ck, cs, cn, cb, n, raw⟩) rfl rfl (cells_new _ _ _) (by simp [Ac.vals, Value.oneCell']) (by decide) (by unfold maxLen; omega) (by omega) (by simp; omega) (w6.heap.size + 1) (size_alloc _ _) ?_; intro g' off' cap' w7 hown hgrow hat)
            have hne : some w.heap.size ≠ (Value.slice ah out.length ch).ownBlock := fun e => by have := (hs6.blk _ e.symm).1; omega
            have krz := (kr6.alloc (.cells #[.int .i64 kind, .int .i64 side, .int .i64 ck, .int .i64 cs, .int .i64 cn, Str cb, .int .i64 n, Str raw] 160)).grown hgrow hne
            have hBz : Below w.heap.size w w7 := (Below.chainAlloc hB6 _).grown hgrow (by simp; omega) (fun k hk => by have := (hs6.blk k hk).1; omega)
            have hsz7 : Seg w7 (w.heap.size + 1) 160 8 (.slice (some ⟨g', off', none⟩) (out.length + 1) cap') (out ++ [(⟨kind, side, ck, cs, cn, cb, n, raw⟩ : Ac)]).length ((out ++ [(⟨kind, side, ck, cs, cn, cb, n, raw⟩ : Ac)]).flatMap Ac.vals) := by
              rw [List.length_append, List.flatMap_append, List.flatMap_cons, List.flatMap_nil, List.append_nil]
              exact hown
            have hll2 : l2.length ≤ l.length := by omega
            clear hown hgrow hat hne hs6 hB6 kr6 ka6 c5 f5
            go_roundg f
            case measure => omega
            case rel => exact ⟨l2, out ++ [⟨kind, side, ck, cs, cn, cb, n, raw⟩], by omega, hll2, HX.out, by rw [List.length_append]; simp; omega, krz, hsz7, hBz⟩
      · have HX := Lib.hid (show readA l = none by rw [HN.out, if_pos (.inl he)])
        have hd : (e2 != 0) = true := by simpa using he
        clear he
        go_wp2_with fail
        go_ret2
        exact readP_no HX.out hB3
theorem rread_2 (l : List UInt8) (hl : l.length ≤ 9223372036854775807) (w : World) : Calls Try.prog 41 #[Str l] w (Read2 (readS l) (readR l) w) := by
  refine (rread_s l hl w).mono ?_
  rintro e w' ⟨v, h1, h2, h3⟩
  obtain ⟨a, cap, rfl⟩ := h3.form
  exact ⟨a, cap, h1, h2, IsRows.of_seg h3⟩
end Go.Proofs.Ytdjjienklfbalaa
