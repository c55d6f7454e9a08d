/-
  The document's table: Same, Oldest (chapter 18).
-/
import Derived.Test.YtnommofekjiiaaaTb5
namespace Go.Proofs.Ytnommofekjiiaaa
open Go Go.RowKit Go.MuLone
set_option linter.unusedVariables false
set_option linter.unusedSimpArgs false
set_option maxRecDepth 100000
set_option maxHeartbeats 2000000
theorem rsame_yes (b1 b2 : Nat) (v1 v2 : Value) (l : List Sh) (w : World) (h1 : ShS w b1 v1 l) (h2 : ShS w b2 v2 l) (hl : l.length ≤ 1000) :
    Calls Try.prog 19 #[v1, v2] w fun e w' => e = .returned (.bool true) ∧ Below w.heap.size w w' := by
  obtain ⟨a1, c1, rfl⟩ := h1.form
  obtain ⟨a2, c2, rfl⟩ := h2.form
  have H1 := Lib.hid h1
  have H2 := Lib.hid h2
  have HL := Lib.hid hl
  clear h1 h2 hl
  go_enter Try.func19, Try.ntmps19
  go_wp2_with fail
  go_loopg [5] l.length (fun gk i wr => ∃ j : Nat, l.length - j ≤ gk ∧ j ≤ l.length ∧ i = .int .i64 (j : Int) ∧ Hid (Below w.heap.size w wr))
  case atStart => exact ⟨0, by omega, Nat.zero_le _, rfl, Lib.hid (Below.refl _ _)⟩
  case round =>
    obtain ⟨j, hjg, hj, rfl, HREL⟩ := hrel
    by_cases hlt : j < l.length
    · have hlt' : (j : Int) < (l.length : Int) := by omega
      have hjb : (j : Int) ≤ 1000 := by have := HL.out; omega
      have s1 := H1.out.chain HREL.out
      have s2 := H2.out.chain HREL.out
      obtain ⟨g1, o1, c1', e1, _⟩ := s1.shape (by omega)
      obtain ⟨g2, o2, c2', e2, _⟩ := s2.shape (by omega)
      cases e1
      cases e2
      obtain ⟨z, hz⟩ : ∃ z, l[j]? = some z := ⟨_, List.getElem?_eq_getElem hlt⟩
      obtain ⟨p0, p1⟩ := ShS.cell s1 j z hz
      obtain ⟨q0, q1⟩ := ShS.cell s2 j z hz
      have hek : ∀ w, (binOp .neq 32 (.agg #[.int .i64 z.1, Str z.2]) (.agg #[.int .i64 z.1, Str z.2])).run Try.prog w = .ok (.bool false) w := fun w => by
        have := run_neq_sh w z z
        rw [decide_eq_true rfl] at this
        exact this
      have HJL := Lib.hid hlt
      clear s1 s2 hz hlt
      go_wp2_with fail
      go_quiet (fail)
      go_wp2_with fail
      go_roundg (l.length - (j + 1))
      case measure => have := HJL.out; omega
      case rel => exact ⟨j + 1, Nat.le_refl _, HJL.out, by go_num, Lib.hid (below_drewN HREL.out _)⟩
    · obtain rfl : j = l.length := by omega
      have hlt' : ¬ (l.length : Int) < (l.length : Int) := by omega
      clear hlt
      go_wp2_with fail
      go_ret
      exact ⟨rfl, HREL.out⟩
theorem old_at : ∀ (A : List DE) (i : Nat) (d : DE), A[i]? = some d → (∀ (j : Nat) e, j < i → A[j]? = some e → doneD e) → ¬ doneD d → oldD A = some d
  | [], _, _, h, _, _ => by simp at h
  | e :: A, 0, d, h, _, hk => by
    simp only [List.getElem?_cons_zero, Option.some.injEq] at h
    subst h
    unfold oldD
    rw [List.find?_cons_of_pos (by simp [hk])]
  | e :: A, i + 1, d, h, h0, hk => by
    have he : doneD e := h0 0 e (Nat.succ_pos _) rfl
    have ih := old_at A i d (by simpa using h) (fun j f hj hf => h0 (j + 1) f (by omega) (by simpa using hf)) hk
    unfold oldD at ih ⊢
    rw [List.find?_cons_of_neg (by simp [he])]
    exact ih
theorem old_no {A : List DE} (h : ∀ (j : Nat) e, A[j]? = some e → doneD e) : oldD A = none := by
  unfold oldD
  rw [List.find?_eq_none]
  intro d hd
  obtain ⟨j, hj, rfl⟩ := List.getElem_of_mem hd
  simp [h j _ (List.getElem?_eq_getElem hj)]
theorem rold_any (base : Nat) (room : Int) (v : Value) (A : List DE) (vs : List Value) (w : World) (h : DocA base w v A vs) (hl : A.length ≤ 1000) :
    Calls Try.prog 10 #[.agg #[.int .i64 room, v]] w fun e w' => e = .returned (.tuple #[encK (((oldD A).map Prod.fst).getD (0, 0)), .bool (oldD A).isSome]) ∧ Below w.heap.size w w' := by
  obtain ⟨a, cap, rfl⟩ := h.s.form
  have HD := Lib.hid h
  have HL := Lib.hid hl
  have HRES : Hid (∀ (j : Nat) d, A[j]? = some d → (∀ (i : Nat) e, i < j → A[i]? = some e → doneD e) → ¬ doneD d → oldD A = some d) := Lib.hid fun j d a b c => old_at A j d a b c
  have HNO : Hid ((∀ (j : Nat) e, A[j]? = some e → doneD e) → oldD A = none) := Lib.hid old_no
  generalize oldD A = res at *
  have HBT : Hid (Blk ((w.alloc (.cells #[.int .i64 room, .slice a A.length cap] 30)).alloc (.cells #[.int .i64 0, .int .u32 0] 35)) w.heap.size #[.int .i64 room, .slice a A.length cap] 30) := Lib.hid ((Blk.new w _ _).alloc _)
  have HBK : Hid (Blk ((w.alloc (.cells #[.int .i64 room, .slice a A.length cap] 30)).alloc (.cells #[.int .i64 0, .int .u32 0] 35)) (w.heap.size + 1) #[.int .i64 0, .int .u32 0] 35) := Lib.hid (Blk.newAt (size_alloc _ _).symm)
  have HB0 := Lib.hid (Below.chainAlloc (Below.chainAlloc (Below.refl _ w) (.cells #[.int .i64 room, .slice a A.length cap] 30)) (.cells #[.int .i64 0, .int .u32 0] 35))
  clear h hl
  obtain ⟨Q, hQ⟩ : ∃ Q, (fun e w' => e = Ending.returned (.tuple #[encK ((res.map Prod.fst).getD (0, 0)), .bool res.isSome]) ∧ Below w.heap.size w w') = Q := ⟨_, rfl⟩
  have HQ := Lib.hid hQ
  rw [hQ]
  clear hQ
  go_enter Try.func10, Try.ntmps10
  go_wp2_with fail
  generalize (w.alloc (.cells #[.int .i64 room, .slice a A.length cap] 30)).alloc (.cells #[.int .i64 0, .int .u32 0] 35) = W0 at *
  obtain ⟨bT, hbT⟩ : ∃ bT, w.heap.size = bT := ⟨_, rfl⟩
  rw [hbT] at HBT HBK HB0 ⊢
  have HBN := Lib.hid hbT
  clear hbT
  go_loopg [4] A.length (fun gk i wr => ∃ j : Nat, A.length - j ≤ gk ∧ j ≤ A.length ∧ i = .int .i64 (j : Int) ∧ Hid (Below W0.heap.size W0 wr ∧ ∀ (q : Nat) e, q < j → A[q]? = some e → doneD e))
  case atStart => exact ⟨0, by omega, Nat.zero_le _, rfl, Lib.hid ⟨Below.refl _ _, fun q e hq => absurd hq (Nat.not_lt_zero _)⟩⟩
  case round =>
    obtain ⟨j, hjg, hj, rfl, HREL⟩ := hrel
    have kt := HBT.out.below HREL.out.1 HBT.out.lt
    have t1 := kt.facts.1 1
    have kk := HBK.out.below HREL.out.1 HBK.out.lt
    by_cases hlt : j < A.length
    · have hlt' : (j : Int) < (A.length : Int) := by omega
      have hjb : (j : Int) ≤ 1000 := by have := HL.out; omega
      have hD := (HD.out.chain (by rw [HBN.out]; exact HB0.out)).chain HREL.out.1
      obtain ⟨g, off, d, ad, cd, rfl, hd, hu, _, d0, d1, d2, d3⟩ := hD.at j hlt
      have HDJ := Lib.hid hd
      have HJL := Lib.hid hlt
      have HRD : Hid (∀ w', Calls Try.prog 21 #[.agg #[.int .i64 d.1.1, .int .u32 d.1.2, .int .i64 d.2.1, .slice ad d.2.2.length cd]] w' fun e w'' => e = .returned (.bool (decide (doneD d))) ∧ Below w'.heap.size w' w'') := Lib.hid fun w' => rready d.1.1 d.1.2 d.2.1 d.2.2 ad cd w'
      clear hD hd hu kt kk hlt
      go_wp2_with fail
      refine (HRD.out _).mono ?_
      rintro e w3 ⟨rfl, hb3⟩
      have HB3 := Lib.hid (Below.chain hb3 HREL.out.1)
      clear hb3 t1 d0 d1 d2 d3
      by_cases hk : doneD d
      · have HNX : Hid (∀ (q : Nat) e, q < j + 1 → A[q]? = some e → doneD e) := Lib.hid fun q e hq he => by
          by_cases h9 : q = j
          · subst h9
            have := HDJ.out
            rw [he] at this
            cases this
            exact hk
          · exact HREL.out.2 q e (by omega) he
        rw [decide_eq_true hk]
        clear hk
        go_wp2_with fail
        go_roundg (A.length - (j + 1))
        case measure => have := HJL.out; omega
        case rel => exact ⟨j + 1, Nat.le_refl _, HJL.out, by go_num, Lib.hid ⟨HB3.out, HNX.out⟩⟩
      · have HR := Lib.hid (HRES.out j d HDJ.out HREL.out.2 hk)
        rw [decide_eq_false hk]
        have hD := (HD.out.chain (by rw [HBN.out]; exact HB0.out)).chain HB3.out
        obtain ⟨g', off', d', ad', cd', eg, hd', hu', _, d0, d1, d2, d3⟩ := hD.at j HJL.out
        cases eg
        rw [HDJ.out] at hd'
        cases hd'
        have t1 := (HBT.out.below HB3.out HBT.out.lt).facts.1 1
        have kk := HBK.out.below HB3.out HBK.out.lt
        have kk0 := kk.facts.1 0
        have kk1 := kk.facts.1 1
        have fk0 := kk.facts.2.1 0
        have fk1 := kk.facts.2.1 1
        clear hk hD hu' kk d2 d3
        go_wp2_with fail
        try rw [Exit.noGoto_ret]
        refine bodyPost_ret (v := .tuple #[.agg #[.int .i64 d.1.1, .int .u32 d.1.2], .bool true]) (by simp [results, Try.results10, go_sem, kk0, kk1]) rfl ?_
        rw [← HQ.out, HR.out, HBN.out]
        have hfin : Below bT w w3 := by have := HB0.out; exact Below.trans this (HB3.out.mono (by have := HBK.out.lt; omega))
        exact ⟨rfl, (hfin.setCell (show bT ≤ bT + 1 by omega) _).setCell (show bT ≤ bT + 1 by omega) _⟩
    · obtain rfl : j = A.length := by omega
      have hlt' : ¬ (A.length : Int) < (A.length : Int) := by omega
      have HR := Lib.hid (HNO.out (fun q e he => HREL.out.2 q e (List.getElem?_eq_some_iff.1 he).1 he))
      have kk0 := kk.facts.1 0
      have kk1 := kk.facts.1 1
      have fk0 := kk.facts.2.1 0
      have fk1 := kk.facts.2.1 1
      clear hlt kt kk
      go_wp2_with fail
      try rw [Exit.noGoto_ret]
      refine bodyPost_ret (v := .tuple #[.agg #[.int .i64 0, .int .u32 0], .bool false]) (by simp [results, Try.results10, go_sem, kk0, kk1]) rfl ?_
      rw [← HQ.out, HR.out, HBN.out]
      have hfin : Below bT w wr := by have := HB0.out; exact Below.trans this (HREL.out.1.mono (by have := HBK.out.lt; omega))
      exact ⟨rfl, (hfin.setCell (show bT ≤ bT + 1 by omega) _).setCell (show bT ≤ bT + 1 by omega) _⟩
end Go.Proofs.Ytnommofekjiiaaa
