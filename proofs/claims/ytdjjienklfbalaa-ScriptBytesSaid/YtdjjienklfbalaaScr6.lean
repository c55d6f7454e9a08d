/-
  Scripts: steps are read: the program's contract (chapter 33).
-/
import Derived.Test.YtdjjienklfbalaaScr5
import Derived.Test.YtdjjienklfbalaaScr2
import Derived.Test.YtdjjienklfbalaaSeg
namespace Go.Proofs.Ytdjjienklfbalaa
open Go.RowKit
set_option linter.unusedVariables false
set_option maxRecDepth 100000
set_option maxHeartbeats 1000000
theorem infoAct : (Try.prog.info? 160).map (fun i => (i.zero, i.size, i.bytes)) = some (some (.agg #[.int .i64 0, .int .i64 0, .int .i64 0, .int .i64 0, .int .i64 0, .string ⟨#[]⟩, .int .i64 0, .string ⟨#[]⟩]), 8, 80) := by kernel_rfl
def readS (l : List UInt8) : List Ac := (readA l).getD []
def readR (l : List UInt8) : Int := if (readA l).isSome then 0 else 5
theorem vals_len (a : Ac) : a.vals.length = 8 := rfl
theorem one_less {l : List UInt8} (h : (oneC l).2.2 = 0) : (oneC l).2.1.length < l.length := by
  have h1 := one_enc h
  have h2 := congrArg List.length h1.1
  rw [List.length_append] at h2
  omega
def ReadP (T : TypeId) (l : List UInt8) (w : World) (e : Ending) (w' : World) : Prop := ∃ v, e = .returned (.tuple #[v, .int .i64 (readR l)]) ∧ Below w.heap.size w w' ∧ Seg w' w.heap.size T 8 v (readS l).length ((readS l).flatMap Ac.vals)
theorem readP_no {T : TypeId} {l : List UInt8} {w w' : World} (h : readA l = none) (hb : Below w.heap.size w w') : ReadP T l w (.returned (.tuple #[.slice none 0 0, .int .i64 5])) w' :=
  ⟨.slice none 0 0, by unfold readR; rw [h]; rfl, hb, by unfold readS; rw [h]; exact Seg.nil _ _ _ _⟩
theorem readP_ok {T : TypeId} {l : List UInt8} {w w' : World} {v : Value} {o : List Ac} (h : readA l = some o) (hb : Below w.heap.size w w') (hs : Seg w' w.heap.size T 8 v o.length (o.flatMap Ac.vals)) : ReadP T l w (.returned (.tuple #[v, .int .i64 0])) w' :=
  ⟨v, by unfold readR; rw [h]; rfl, hb, by unfold readS; rw [h]; exact hs⟩
theorem rdL_step {f : Nat} {l : List UInt8} {out : List Ac} (hl : l ≠ []) : rdL (f + 1) l out = if (oneC l).2.2 ≠ 0 ∨ mayA (oneC l).1 = false ∨ out.length = 1024 then none else rdL f (oneC l).2.1 (out ++ [(oneC l).1]) := by
  rw [rdL, if_neg hl]
theorem read_s (l : List UInt8) (hl : l.length ≤ 9223372036854775807) (w : World) : Calls Try.prog 40 #[Str l] w (ReadP 160 l w) := by
  obtain ⟨i0, hi, hz0, hz1, hz2⟩ := info_parts infoAct
  have HRA : Hid (readA l = rdL (l.length + 1) l []) := Lib.hid rfl
  go_enter Try.func40, Try.ntmps40
  go_wp2_with fail
  refine (new_any l hl _).mono ?_
  rintro e w0 ⟨rfl, hr0, hb0⟩
  have hlt0 := hr0.1.lt
  go_wp2_with fail
  go_loopg [5] (l.length + 1) (fun gk v wr => ∃ (l' : List UInt8) (out : List Ac), l'.length < gk ∧ rdL gk l' out = readA l ∧ out.length ≤ 1024 ∧ Rd wr w.heap.size l' 0 ∧ Seg wr (w.heap.size + 1) 160 8 v out.length (out.flatMap Ac.vals) ∧ Below w.heap.size w wr)
  case atStart => exact ⟨l, [], Nat.lt_succ_self _, HRA.out.symm, by simp, hr0, Seg.nil _ _ _ _, hb0⟩
  case round =>
    obtain ⟨l', out, hfu, heq, hol, hr, hs, hB⟩ := hrel
    have HEQ := Lib.hid heq
    obtain ⟨ah, ch, rfl⟩ := hs.form
    obtain ⟨f, rfl⟩ : ∃ f, gk = f + 1 := ⟨gk - 1, by omega⟩
    clear heq
    go_wp2_with fail
    refine (left_any _ l' 0 _ hr).mono ?_
    rintro e w1 ⟨rfl, rfl⟩
    by_cases hl' : l' = []
    · have HX := Lib.hid (show readA l = some out by rw [← HEQ.out, hl', rdL, if_pos rfl])
      subst hl'
      go_wp2_with fail
      go_ret2
      exact readP_ok HX.out hB (hs.le (by omega))
    · have HN := Lib.hid (show readA l = if (oneC l').2.2 ≠ 0 ∨ mayA (oneC l').1 = false ∨ out.length = 1024 then none else rdL f (oneC l').2.1 (out ++ [(oneC l').1]) by rw [← HEQ.out, rdL_step hl'])
      have hp : decide (0 < (l'.length : Int)) = true := by
        cases l' with
        | nil => exact absurd rfl hl'
        | cons x t => simp
      have hp2 : decide (0 < l'.length) = true := by
        cases l' with
        | nil => exact absurd rfl hl'
        | cons x t => simp
      have HLS := Lib.hid (one_less (l := l'))
      have HO := Lib.hid (one_s w.heap.size l' wr hr)
      clear HEQ hl'
      go_wp2_with fail
      refine HO.out.mono ?_
      rintro e w2 ⟨rfl, hr2, ho2⟩
      have hs2 := hs.only ho2 (fun g hg => by have := (hs.blk g hg).1; simp; omega)
      have hB2 := Below.only hB ho2 (by simp)
      clear hr hs hB ho2 HO
      generalize hone : oneC l' = O at *
      clear hone
      obtain ⟨⟨kind, side, ck, cs, cn, cb, n, raw⟩, l2, e2⟩ := O
      simp only at hr2
      have hr3 : Rd (w2.alloc (.cells #[.int .i64 kind, .int .i64 side, .int .i64 ck, .int .i64 cs, .int .i64 cn, Str cb, .int .i64 n, Str raw] 160)) w.heap.size l2 e2 := ⟨hr2.1.alloc _, hr2.2⟩
      have hs3 := hs2.alloc (.cells #[.int .i64 kind, .int .i64 side, .int .i64 ck, .int .i64 cs, .int .i64 cn, Str cb, .int .i64 n, Str raw] 160)
      have hB3 := Below.chainAlloc hB2 (.cells #[.int .i64 kind, .int .i64 side, .int .i64 ck, .int .i64 cs, .int .i64 cn, Str cb, .int .i64 n, Str raw] 160)
      have k3 := Blk.new w2 #[.int .i64 kind, .int .i64 side, .int .i64 ck, .int .i64 cs, .int .i64 cn, Str cb, .int .i64 n, Str raw] 160
      have hsz := hr2.1.lt
      clear hr2 hs2 hB2
      go_wp2_with fail
      refine (err_any _ l2 e2 _ hr3).mono ?_
      rintro e w4 ⟨rfl, rfl⟩
      by_cases he : e2 = 0
      · subst he
        have HM := Lib.hid (fun w => may_s ⟨kind, side, ck, cs, cn, cb, n, raw⟩ w)
        go_wp2_with fail
        refine (HM.out _).mono ?_
        rintro e w5 ⟨rfl, hb⟩
        have hr5 : Rd w5 w.heap.size l2 0 := ⟨hr3.1.below hb hr3.1.lt, hr3.2⟩
        have hs5 := hs3.chain hb
        have hB5 := Below.chain hb hB3
        have k5 := k3.below hb k3.lt
        clear hr3 hs3 hB3 k3 hb HM
        cases hmd : mayA ⟨kind, side, ck, cs, cn, cb, n, raw⟩ with
        | false =>
          have HX := Lib.hid (show readA l = none by rw [HN.out, if_pos (.inr (.inl hmd))])
          clear hmd
          go_wp2_with fail
          go_ret2
          exact readP_no HX.out hB5
        | true =>
          by_cases h24 : out.length = 1024
          · have HX := Lib.hid (show readA l = none by rw [HN.out, if_pos (.inr (.inr h24))])
            have d24 : ((out.length : Int) == 1024) = true := by simp; omega
            clear hmd h24
            go_wp2_with fail
            go_ret2
            exact readP_no HX.out hB5
          · have HX := Lib.hid (show rdL f l2 (out ++ [⟨kind, side, ck, cs, cn, cb, n, raw⟩]) = readA l by
              rw [HN.out, if_neg]
              rintro (h | h | h)
              · exact h rfl
              · rw [hmd] at h; cases h
              · exact h24 h)
            have hls := HLS.out trivial
            have d24 : ((out.length : Int) == 1024) = false := by simp; omega
            have hol2 : out.length + 1 ≤ 1024 := by omega
            clear hmd h24 HN HLS
            obtain ⟨c5, f5, l5⟩ := k5.facts
            have hbs : w.heap.size + 1 ≤ w5.heap.size := hr5.1.lt
            go_wp2_with (at_builtin; refine wpList_append_seg _ rfl (.tmp 27) (.tmp 29) 68 rfl (w.heap.size + 1) 160 i0 _ 8 80 Try.underlying68 hi hz0 hz1 hz2 rfl (by decide) (.slice ah out.length ch) out.length (out.flatMap Ac.vals) rfl (hs5.alloc _) ⟨w5.heap.size, 0, none⟩ 1 1 (Ac.vals ⟨kind, side, ck, cs, cn, cb, n, raw⟩) rfl rfl (cells_new _ _ _) (by simp [Ac.vals, Value.oneCell']) (by decide) (by unfold maxLen; omega) (by omega) (by simp; omega) (w5.heap.size + 1) (size_alloc _ _) ?_; intro g' off' cap' w6 hown hgrow hat)
            have hne : some w.heap.size ≠ (Value.slice ah out.length ch).ownBlock := fun e => by have := (hs5.blk _ e.symm).1; omega
            have hrz : Rd w6 w.heap.size l2 0 := ⟨(hr5.1.alloc _).grown hgrow hne, hr5.2⟩
            have hBz : Below w.heap.size w w6 := (Below.chainAlloc hB5 _).grown hgrow (by simp; omega) (fun k hk => by have := (hs5.blk k hk).1; omega)
            have hsz6 : Seg w6 (w.heap.size + 1) 160 8 (.slice (some ⟨g', off', none⟩) (out.length + 1) cap') (out ++ [(⟨kind, side, ck, cs, cn, cb, n, raw⟩ : Ac)]).length ((out ++ [(⟨kind, side, ck, cs, cn, cb, n, raw⟩ : Ac)]).flatMap Ac.vals) := by
              rw [List.length_append, List.flatMap_append, List.flatMap_cons, List.flatMap_nil, List.append_nil]
              exact hown
            clear hown hgrow hat hne hr5 hs5 hB5 k5 c5 f5
            go_roundg f
            case measure => omega
            case rel => exact ⟨l2, out ++ [⟨kind, side, ck, cs, cn, cb, n, raw⟩], by omega, HX.out, by rw [List.length_append]; simp; omega, hrz, hsz6, hBz⟩
      · have HX := Lib.hid (show readA l = none by rw [HN.out, if_pos (.inl he)])
        have hd : (e2 != 0) = true := by simpa using he
        clear he
        go_wp2_with fail
        go_ret2
        exact readP_no HX.out hB3
end Go.Proofs.Ytdjjienklfbalaa
