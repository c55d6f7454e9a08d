/-
  Arrays of ints compared; chapter 37's examples.
-/
import Derived.Test.YteepdknnmdhckaaCp6
namespace Go.Proofs.Yteepdknnmdhckaa
open Go Go.RowKit
set_option linter.unusedVariables false
set_option linter.unusedSimpArgs false
set_option maxRecDepth 100000
set_option maxHeartbeats 2000000
def cellI (z : Int) : Value := .int .i64 z
theorem all_range_eqI : ∀ (xs ys : List Int), xs.length = ys.length → ((List.range xs.length).all fun i => xs.getD i 0 == ys.getD i 0) = (xs == ys)
  | [], [], _ => rfl
  | x :: xs, y :: ys, h => by
    have ih := all_range_eqI xs ys (by simpa using h)
    rw [List.length_cons, List.range_succ_eq_map, List.all_cons, List.all_map]
    simp only [List.getD_cons_zero, Function.comp_def, List.getD_cons_succ, ih]
    simp [List.cons_beq_cons]
  | [], _ :: _, h => by simp at h
  | _ :: _, [], h => by simp at h
theorem run_equalIn_ints {P : Program} (w : World) (d : Nat) (t e : TypeId) (n : Nat) (ht : P.underlying t = some (.array n e)) (he : P.underlying e = some (.int .i64)) (hsz : ∀ w, (sizeOf e).run P w = .ok 1 w)
    (xs ys : List Int) (hx : xs.length = n) (hy : ys.length = n) :
    (Op.equalIn (d + 2) t (.agg (xs.map cellI).toArray) (.agg (ys.map cellI).toArray)).run P w = .ok (xs == ys) w := by
  rw [← all_range_eqI xs ys (hx.trans hy.symm), hx, List.range_eq_range', Op.equalIn]
  simp only [Sem.run_bind, run_underlying ht, Result.andThen_ok, hsz, Std.Legacy.Range.forIn_eq_forIn_range', Std.Legacy.Range.size, Nat.sub_zero, Nat.add_sub_cancel, Nat.div_one]
  have hl : ∀ i ∈ List.range' 0 n 1, i < n := fun i hi => by simpa using (List.mem_range'_1.1 hi).2
  generalize List.range' 0 n 1 = l at hl ⊢
  induction l with
  | nil => simp
  | cons i l ih =>
    have hi : i < n := hl i (by simp)
    have px : (part e (xs.map cellI).toArray (i * 1)).run P w = .ok (cellI (xs.getD i 0)) w := by
      simp [part, isAgg, run_underlying he, List.getD, List.getElem?_eq_getElem (show i < xs.length by omega)]
    have py : (part e (ys.map cellI).toArray (i * 1)).run P w = .ok (cellI (ys.getD i 0)) w := by
      simp [part, isAgg, run_underlying he, List.getD, List.getElem?_eq_getElem (show i < ys.length by omega)]
    have pe : (Op.equalIn (d + 1) e (cellI (xs.getD i 0)) (cellI (ys.getD i 0))).run P w = .ok (xs.getD i 0 == ys.getD i 0) w := by
      rw [cellI, cellI, run_equalIn_int w d e .i64 .i64 _ _ he]
    simp only [List.forIn_cons, Sem.run_bind, px, py, pe, Result.andThen_ok, List.all_cons]
    cases hb : (xs.getD i 0 == ys.getD i 0)
    · simp
    · simp only [Bool.not_true, Bool.false_eq_true, if_false, Sem.run_pure, Result.andThen_ok, Bool.true_and]
      exact ih fun j hj => hl j (by simp [hj])
theorem run_eql6 (a0 a1 a2 a3 a4 a5 : Int) (w : World) : (binOp .eql 24 (.agg #[.int .i64 a0, .int .i64 a1, .int .i64 a2, .int .i64 a3, .int .i64 a4, .int .i64 a5]) (.agg #[.int .i64 a0, .int .i64 a1, .int .i64 a2, .int .i64 a3, .int .i64 a4, .int .i64 a5])).run Try.prog w = .ok (.bool true) w := by
  rw [run_eql_struct]
  have h := run_equalIn_ints (P := Try.prog) w 9998 24 3 6 Try.underlying24 Try.underlying3 Try.sizeOf3 [a0, a1, a2, a3, a4, a5] [a0, a1, a2, a3, a4, a5] rfl rfl
  have e : (([a0, a1, a2, a3, a4, a5] : List Int) == [a0, a1, a2, a3, a4, a5]) = true := by simp
  rw [e] at h
  rw [show #[Value.int .i64 a0, .int .i64 a1, .int .i64 a2, .int .i64 a3, .int .i64 a4, .int .i64 a5] = (([a0, a1, a2, a3, a4, a5] : List Int).map cellI).toArray from rfl, h]
  rfl
theorem sound_nil (cs : Array Value) (w : World) : Calls Try.prog 16 #[.pointer none, .agg cs] w fun e w' => e = .returned (.bool true) ∧ Below w.heap.size w w' := by
  go_enter Try.func16, Try.ntmps16
  go_wp2_with fail
  go_ret
  exact ⟨rfl, by first | exact Below.chainAlloc (Below.refl _ _) _ | exact Below.refl _ _⟩
def AK (w : World) (bk bl : Nat) : Prop := Blk w bk #[.int .i64 4, .int .i64 2, .int .i64 16, .int .i64 4, .int .i64 256, .int .i64 256, .int .i64 64, .int .i64 4096, .int .i64 16, .int .i64 2, .int .i64 8] 23 ∧ Blk w bl #[.int .i64 4096, .int .i64 1040, .int .i64 512, .int .i64 512, .int .i64 1792, .int .i64 256] 24
theorem AK.below {w w' : World} {bk bl : Nat} (h : AK w bk bl) (hb : Below w.heap.size w w') : AK w' bk bl := ⟨h.1.below hb h.1.lt, h.2.below hb h.2.lt⟩
theorem sixM : sixA (mostF 4 2 16 4 256 256 64 4096 16 2 8) = #[.int .i64 4096, .int .i64 1040, .int .i64 512, .int .i64 512, .int .i64 1792, .int .i64 256] := by
  unfold sixA mostF
  rw [if_pos (by decide), if_pos (by decide), if_pos (by decide), if_pos (by decide), if_pos (by decide), if_pos (by decide)]
  rfl
theorem sixZ : sixA (mostF 0 0 0 0 0 0 0 0 0 0 0) = #[.int .i64 0, .int .i64 0, .int .i64 0, .int .i64 0, .int .i64 0, .int .i64 0] := by
  unfold sixA mostF
  rw [if_neg (by decide), if_neg (by decide), if_neg (by decide), if_neg (by decide), if_neg (by decide), if_neg (by decide)]
def one4097 : Nat → Int := fun i => if i = 0 then 4097 else 0
theorem six4097 : sixA one4097 = #[.int .i64 4097, .int .i64 0, .int .i64 0, .int .i64 0, .int .i64 0, .int .i64 0] := rfl
theorem awake37_ok (w : World) : Calls Try.prog 8 #[] w fun e w' => e = .returned (.bool true) ∧ Below w.heap.size w w' := by
  have HP := Lib.hid (rplain_any w)
  have HM : Hid (∀ w', Calls Try.prog 6 #[.agg #[.int .i64 4, .int .i64 2, .int .i64 16, .int .i64 4, .int .i64 256, .int .i64 256, .int .i64 64, .int .i64 4096, .int .i64 16, .int .i64 2, .int .i64 8]] w' fun e w'' => e = .returned (.agg #[.int .i64 4096, .int .i64 1040, .int .i64 512, .int .i64 512, .int .i64 1792, .int .i64 256]) ∧ Below w'.heap.size w' w'') := Lib.hid fun w' => by
    have := most_any 4 2 16 4 256 256 64 4096 16 2 8 w'
    rw [sixM] at this
    exact this
  have HM0 : Hid (∀ w', Calls Try.prog 6 #[.agg #[.int .i64 0, .int .i64 0, .int .i64 0, .int .i64 0, .int .i64 0, .int .i64 0, .int .i64 0, .int .i64 0, .int .i64 0, .int .i64 0, .int .i64 0]] w' fun e w'' => e = .returned (.agg #[.int .i64 0, .int .i64 0, .int .i64 0, .int .i64 0, .int .i64 0, .int .i64 0]) ∧ Below w'.heap.size w' w'') := Lib.hid fun w' => by
    have := most_any 0 0 0 0 0 0 0 0 0 0 0 w'
    rw [sixZ] at this
    exact this
  have HW1 : Hid (∀ w', Calls Try.prog 7 #[.agg #[.int .i64 4, .int .i64 2, .int .i64 16, .int .i64 4, .int .i64 256, .int .i64 256, .int .i64 64, .int .i64 4096, .int .i64 16, .int .i64 2, .int .i64 8], .agg #[.int .i64 4096, .int .i64 1040, .int .i64 512, .int .i64 512, .int .i64 1792, .int .i64 256]] w' fun e w'' => e = .returned (.bool true) ∧ Below w'.heap.size w' w'') := Lib.hid fun w' => by
    have := within_any 4 2 16 4 256 256 64 4096 16 2 8 (mostF 4 2 16 4 256 256 64 4096 16 2 8) w'
    rw [sixM, show okB (mostF 4 2 16 4 256 256 64 4096 16 2 8) (mostF 4 2 16 4 256 256 64 4096 16 2 8) 6 = true by decide] at this
    exact this
  have HW2 : Hid (∀ w', Calls Try.prog 7 #[.agg #[.int .i64 4, .int .i64 2, .int .i64 16, .int .i64 4, .int .i64 256, .int .i64 256, .int .i64 64, .int .i64 4096, .int .i64 16, .int .i64 2, .int .i64 8], .agg #[.int .i64 4097, .int .i64 0, .int .i64 0, .int .i64 0, .int .i64 0, .int .i64 0]] w' fun e w'' => e = .returned (.bool false) ∧ Below w'.heap.size w' w'') := Lib.hid fun w' => by
    have := within_any 4 2 16 4 256 256 64 4096 16 2 8 one4097 w'
    rw [six4097, show okB one4097 (mostF 4 2 16 4 256 256 64 4096 16 2 8) 6 = false by decide] at this
    exact this
  have HN : Hid (∀ w', Calls Try.prog 15 #[.agg #[.int .i64 4, .int .i64 2, .int .i64 16, .int .i64 4, .int .i64 256, .int .i64 256, .int .i64 64, .int .i64 4096, .int .i64 16, .int .i64 2, .int .i64 8]] w' fun e w'' => ∃ bw, e = .returned (.tuple #[ptr bw, .int .i64 0]) ∧ PW bw 2 w'' ∧ Below w'.heap.size w' w'' ∧ w'.heap.size ≤ bw) := Lib.hid fun w' => wnew_yes 4 2 16 4 256 256 64 4096 16 2 8 w' (by decide)
  have HS : Hid (∀ bw w', PW bw 2 w' → Calls Try.prog 16 #[.pointer (some ⟨bw, 0, none⟩), .agg #[.int .i64 4, .int .i64 2, .int .i64 16, .int .i64 4, .int .i64 256, .int .i64 256, .int .i64 64, .int .i64 4096, .int .i64 16, .int .i64 2, .int .i64 8]] w' fun e w'' => e = .returned (.bool true) ∧ ∃ ts, Only ts w' w'' ∧ ∀ x ∈ ts, bw ≤ x) := Lib.hid fun bw w' h => sound_new 4 2 16 4 256 256 64 4096 16 2 8 h (by decide)
  have HS0 : Hid (∀ w', Calls Try.prog 16 #[.pointer none, .agg #[.int .i64 4, .int .i64 2, .int .i64 16, .int .i64 4, .int .i64 256, .int .i64 256, .int .i64 64, .int .i64 4096, .int .i64 16, .int .i64 2, .int .i64 8]] w' fun e w'' => e = .returned (.bool true) ∧ Below w'.heap.size w' w'') := Lib.hid fun w' => sound_nil _ w'
  have hq1 := run_eql6 4096 1040 512 512 1792 256
  have hq2 := run_eql6 0 0 0 0 0 0
  go_enter Try.func8, Try.ntmps8
  go_wp2_with fail
  refine HP.out.mono ?_
  rintro e w1 ⟨rfl, hb1⟩
  have ha := Below.chainAlloc hb1 (.cells #[.int .i64 4, .int .i64 2, .int .i64 16, .int .i64 4, .int .i64 256, .int .i64 256, .int .i64 64, .int .i64 4096, .int .i64 16, .int .i64 2, .int .i64 8] 23)
  have HK0 := Lib.hid (And.intro (Blk.new w1 #[.int .i64 4, .int .i64 2, .int .i64 16, .int .i64 4, .int .i64 256, .int .i64 256, .int .i64 64, .int .i64 4096, .int .i64 16, .int .i64 2, .int .i64 8] 23) ha)
  have k0 := HK0.out.1.facts.1 0
  have k1 := HK0.out.1.facts.1 1
  have k2 := HK0.out.1.facts.1 2
  have k3 := HK0.out.1.facts.1 3
  have k4 := HK0.out.1.facts.1 4
  have k5 := HK0.out.1.facts.1 5
  have k6 := HK0.out.1.facts.1 6
  have k7 := HK0.out.1.facts.1 7
  have k8 := HK0.out.1.facts.1 8
  have k9 := HK0.out.1.facts.1 9
  have k10 := HK0.out.1.facts.1 10
  clear hb1 ha
  go_wp2_with fail
  generalize w1.alloc (.cells #[.int .i64 4, .int .i64 2, .int .i64 16, .int .i64 4, .int .i64 256, .int .i64 256, .int .i64 64, .int .i64 4096, .int .i64 16, .int .i64 2, .int .i64 8] 23) = W1 at *
  generalize w1.heap.size = bk at *
  refine (HM.out W1).mono ?_
  rintro e w2 ⟨rfl, hb2⟩
  have ha := Below.chainAlloc (Below.refl _ w2) (.cells #[.int .i64 4096, .int .i64 1040, .int .i64 512, .int .i64 512, .int .i64 1792, .int .i64 256] 24)
  have HK : Hid (AK (w2.alloc (.cells #[.int .i64 4096, .int .i64 1040, .int .i64 512, .int .i64 512, .int .i64 1792, .int .i64 256] 24)) bk w2.heap.size ∧ Below w.heap.size w (w2.alloc (.cells #[.int .i64 4096, .int .i64 1040, .int .i64 512, .int .i64 512, .int .i64 1792, .int .i64 256] 24))) := Lib.hid ⟨⟨(HK0.out.1.below hb2 HK0.out.1.lt).below ha (HK0.out.1.below hb2 HK0.out.1.lt).lt, Blk.new _ _ _⟩, Below.chain ha (Below.chain hb2 HK0.out.2)⟩
  clear k0 k1 k2 k3 k4 k5 k6 k7 k8 k9 k10 hb2 ha HK0
  have k0 := HK.out.1.1.facts.1 0
  have k1 := HK.out.1.1.facts.1 1
  have k2 := HK.out.1.1.facts.1 2
  have k3 := HK.out.1.1.facts.1 3
  have k4 := HK.out.1.1.facts.1 4
  have k5 := HK.out.1.1.facts.1 5
  have k6 := HK.out.1.1.facts.1 6
  have k7 := HK.out.1.1.facts.1 7
  have k8 := HK.out.1.1.facts.1 8
  have k9 := HK.out.1.1.facts.1 9
  have k10 := HK.out.1.1.facts.1 10
  go_wp2_with fail
  generalize w2.alloc (.cells #[.int .i64 4096, .int .i64 1040, .int .i64 512, .int .i64 512, .int .i64 1792, .int .i64 256] 24) = W2 at *
  generalize w2.heap.size = bl at *
  refine (HN.out W2).mono ?_
  rintro e w3 ⟨bw, rfl, hw, hb3, hlo⟩
  have HK3 : Hid (AK w3 bk bl ∧ Below w.heap.size w w3 ∧ PW bw 2 w3) := Lib.hid ⟨HK.out.1.below hb3, Below.chain hb3 HK.out.2, hw⟩
  have HLO : Hid (w.heap.size ≤ bw ∧ bk < bw ∧ bl < bw) := Lib.hid ⟨by have := HK.out.2.size; omega, by have := HK.out.1.1.lt; omega, by have := HK.out.1.2.lt; omega⟩
  clear k0 k1 k2 k3 k4 k5 k6 k7 k8 k9 k10 hw hb3 hlo HK
  have k0 := HK3.out.1.1.facts.1 0
  have k1 := HK3.out.1.1.facts.1 1
  have k2 := HK3.out.1.1.facts.1 2
  have k3 := HK3.out.1.1.facts.1 3
  have k4 := HK3.out.1.1.facts.1 4
  have k5 := HK3.out.1.1.facts.1 5
  have k6 := HK3.out.1.1.facts.1 6
  have k7 := HK3.out.1.1.facts.1 7
  have k8 := HK3.out.1.1.facts.1 8
  have k9 := HK3.out.1.1.facts.1 9
  have k10 := HK3.out.1.1.facts.1 10
  have l0 := HK3.out.1.2.facts.1 0
  have l1 := HK3.out.1.2.facts.1 1
  have l2 := HK3.out.1.2.facts.1 2
  have l3 := HK3.out.1.2.facts.1 3
  have l4 := HK3.out.1.2.facts.1 4
  have l5 := HK3.out.1.2.facts.1 5
  go_wp2_with fail
  refine (HW1.out w3).mono ?_
  rintro e w4 ⟨rfl, hb4⟩
  have HK4 : Hid (AK w4 bk bl ∧ Below w.heap.size w w4 ∧ PW bw 2 w4) := Lib.hid ⟨HK3.out.1.below hb4, Below.chain hb4 HK3.out.2.1, HK3.out.2.2.below hb4⟩
  clear k0 k1 k2 k3 k4 k5 k6 k7 k8 k9 k10 l0 l1 l2 l3 l4 l5 hb4 HK3
  have k0 := HK4.out.1.1.facts.1 0
  have k1 := HK4.out.1.1.facts.1 1
  have k2 := HK4.out.1.1.facts.1 2
  have k3 := HK4.out.1.1.facts.1 3
  have k4 := HK4.out.1.1.facts.1 4
  have k5 := HK4.out.1.1.facts.1 5
  have k6 := HK4.out.1.1.facts.1 6
  have k7 := HK4.out.1.1.facts.1 7
  have k8 := HK4.out.1.1.facts.1 8
  have k9 := HK4.out.1.1.facts.1 9
  have k10 := HK4.out.1.1.facts.1 10
  go_wp2_with fail
  refine (HW2.out w4).mono ?_
  rintro e w5 ⟨rfl, hb5⟩
  have HK5 : Hid (AK w5 bk bl ∧ Below w.heap.size w w5 ∧ PW bw 2 w5) := Lib.hid ⟨HK4.out.1.below hb5, Below.chain hb5 HK4.out.2.1, HK4.out.2.2.below hb5⟩
  clear k0 k1 k2 k3 k4 k5 k6 k7 k8 k9 k10 hb5 HK4
  go_wp2_with fail
  refine (HM0.out w5).mono ?_
  rintro e w6 ⟨rfl, hb6⟩
  have HK6 : Hid (AK w6 bk bl ∧ Below w.heap.size w w6 ∧ PW bw 2 w6) := Lib.hid ⟨HK5.out.1.below hb6, Below.chain hb6 HK5.out.2.1, HK5.out.2.2.below hb6⟩
  clear hb6 HK5
  have k0 := HK6.out.1.1.facts.1 0
  have k1 := HK6.out.1.1.facts.1 1
  have k2 := HK6.out.1.1.facts.1 2
  have k3 := HK6.out.1.1.facts.1 3
  have k4 := HK6.out.1.1.facts.1 4
  have k5 := HK6.out.1.1.facts.1 5
  have k6 := HK6.out.1.1.facts.1 6
  have k7 := HK6.out.1.1.facts.1 7
  have k8 := HK6.out.1.1.facts.1 8
  have k9 := HK6.out.1.1.facts.1 9
  have k10 := HK6.out.1.1.facts.1 10
  go_wp2_with fail
  refine (HS.out bw w6 HK6.out.2.2).mono ?_
  rintro e w7 ⟨rfl, ts, ho, hts⟩
  have HK7 : Hid (Blk w7 bk #[.int .i64 4, .int .i64 2, .int .i64 16, .int .i64 4, .int .i64 256, .int .i64 256, .int .i64 64, .int .i64 4096, .int .i64 16, .int .i64 2, .int .i64 8] 23 ∧ Below w.heap.size w w7) := Lib.hid ⟨HK6.out.1.1.only ho (fun hm => by have := hts _ hm; have := HLO.out; omega), Below.only HK6.out.2.1 ho (fun x hx => by have := hts x hx; have := HLO.out; omega)⟩
  clear k0 k1 k2 k3 k4 k5 k6 k7 k8 k9 k10 ho hts HK6
  have k0 := HK7.out.1.facts.1 0
  have k1 := HK7.out.1.facts.1 1
  have k2 := HK7.out.1.facts.1 2
  have k3 := HK7.out.1.facts.1 3
  have k4 := HK7.out.1.facts.1 4
  have k5 := HK7.out.1.facts.1 5
  have k6 := HK7.out.1.facts.1 6
  have k7 := HK7.out.1.facts.1 7
  have k8 := HK7.out.1.facts.1 8
  have k9 := HK7.out.1.facts.1 9
  have k10 := HK7.out.1.facts.1 10
  go_wp2_with fail
  refine (HS0.out w7).mono ?_
  rintro e w8 ⟨rfl, hb8⟩
  have HB8 := Lib.hid (Below.chain hb8 HK7.out.2)
  clear k0 k1 k2 k3 k4 k5 k6 k7 k8 k9 k10 hb8
  go_wp2_with fail
  go_ret
  exact ⟨rfl, HB8.out⟩
end Go.Proofs.Yteepdknnmdhckaa
