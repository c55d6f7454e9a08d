/-
  The document's table: at (chapter 18).
-/
import Derived.Test.YtnommofekjiiaaaTb1
namespace Go.Proofs.Ytnommofekjiiaaa
open Go Go.RowKit Go.MuLone
set_option linter.unusedVariables false
set_option linter.unusedSimpArgs false
set_option maxRecDepth 100000
set_option maxHeartbeats 2000000
theorem idx_at {k : Int × Int} : ∀ (A : List DE) (i : Nat) (d : DE), A[i]? = some d → (∀ j e, j < i → A[j]? = some e → ¬ e.1 = k) → d.1 = k → idxD k A = (i : Int)
  | [], _, _, h, _, _ => by simp at h
  | e :: A, 0, d, h, _, hk => by
    simp only [List.getElem?_cons_zero, Option.some.injEq] at h
    subst h
    unfold idxD
    rw [List.findIdx?_cons, decide_eq_true hk]
    rfl
  | e :: A, i + 1, d, h, h0, hk => by
    have he : ¬ e.1 = k := h0 0 e (Nat.succ_pos _) rfl
    have ih := idx_at A i d (by simpa using h) (fun j f hj hf => h0 (j + 1) f (by omega) (by simpa using hf)) hk
    unfold idxD at ih ⊢
    rw [List.findIdx?_cons, decide_eq_false he]
    cases hq : A.findIdx? (fun d => decide (d.1 = k)) with
    | none => rw [hq] at ih; have : (-1 : Int) = (i : Int) := ih; omega
    | some n => rw [hq] at ih; have : (n : Int) = (i : Int) := ih; simp; omega
theorem idx_no {k : Int × Int} {A : List DE} (h : ∀ (j : Nat) e, A[j]? = some e → ¬ e.1 = k) : idxD k A = -1 := by
  unfold idxD
  rw [List.findIdx?_eq_none_iff.2]
  intro d hd
  obtain ⟨j, hj, rfl⟩ := List.getElem_of_mem hd
  exact decide_eq_false (h j _ (List.getElem?_eq_getElem hj))
theorem rat_any (base : Nat) (room : Int) (k1 k2 : Int) (v : Value) (A : List DE) (vs : List Value) (w : World) (h : DocA base w v A vs) (hl : A.length ≤ 1000) :
    Calls Try.prog 29 #[.agg #[.int .i64 room, v], .agg #[.int .i64 k1, .int .u32 k2]] w fun e w' => e = .returned (.int .i64 (idxD (k1, k2) A)) ∧ Below w.heap.size w w' := by
  obtain ⟨a, cap, rfl⟩ := h.s.form
  have HD := Lib.hid h
  have HL := Lib.hid hl
  have HRES : Hid (∀ (j : Nat) d, A[j]? = some d → (∀ (i : Nat) e, i < j → A[i]? = some e → ¬ e.1 = (k1, k2)) → d.1 = (k1, k2) → idxD (k1, k2) A = (j : Int)) := Lib.hid fun j d a b c => idx_at A j d a b c
  have HNO : Hid ((∀ (j : Nat) e, A[j]? = some e → ¬ e.1 = (k1, k2)) → idxD (k1, k2) A = -1) := Lib.hid idx_no
  generalize idxD (k1, k2) A = res at *
  have hb0 := Below.chainAlloc (Below.chainAlloc (Below.refl _ w) (.cells #[.int .i64 room, .slice a A.length cap] 30)) (.cells #[.int .i64 k1, .int .u32 k2] 35)
  have HBT : Hid (Blk ((w.alloc (.cells #[.int .i64 room, .slice a A.length cap] 30)).alloc (.cells #[.int .i64 k1, .int .u32 k2] 35)) w.heap.size #[.int .i64 room, .slice a A.length cap] 30) := Lib.hid ((Blk.new w _ _).alloc _)
  have HBK : Hid (Blk ((w.alloc (.cells #[.int .i64 room, .slice a A.length cap] 30)).alloc (.cells #[.int .i64 k1, .int .u32 k2] 35)) (w.heap.size + 1) #[.int .i64 k1, .int .u32 k2] 35) := Lib.hid (Blk.newAt (size_alloc _ _).symm)
  have HB0 := Lib.hid hb0
  clear h hl hb0
  go_enter Try.func29, Try.ntmps29
  go_wp2_with fail
  generalize (w.alloc (.cells #[.int .i64 room, .slice a A.length cap] 30)).alloc (.cells #[.int .i64 k1, .int .u32 k2] 35) = W0 at *
  obtain ⟨bT, hbT⟩ : ∃ bT, w.heap.size = bT := ⟨_, rfl⟩
  rw [hbT] at HBT HBK ⊢
  have HBN := Lib.hid hbT
  clear hbT
  go_loopg [5] A.length (fun gk i wr => ∃ j : Nat, A.length - j ≤ gk ∧ j ≤ A.length ∧ i = .int .i64 (j : Int) ∧ Hid (Below W0.heap.size W0 wr ∧ ∀ (q : Nat) e, q < j → A[q]? = some e → ¬ e.1 = (k1, k2)))
  case atStart => exact ⟨0, by omega, Nat.zero_le _, rfl, Lib.hid ⟨Below.refl _ _, fun q e hq => absurd hq (Nat.not_lt_zero _)⟩⟩
  case round =>
    obtain ⟨j, hjg, hj, rfl, HREL⟩ := hrel
    have kt := HBT.out.below HREL.out.1 HBT.out.lt
    have t1 := kt.facts.1 1
    by_cases hlt : j < A.length
    · have hlt' : (j : Int) < (A.length : Int) := by omega
      have hjb : (j : Int) ≤ 1000 := by have := HL.out; omega
      have hD := (HD.out.chain HB0.out).chain HREL.out.1
      obtain ⟨g, off, d, ad, cd, rfl, hd, hu, _, d0, d1, d2, d3⟩ := hD.at j hlt
      have kk := HBK.out.below HREL.out.1 HBK.out.lt
      have kk0 := kk.facts.1 0
      have kk1 := kk.facts.1 1
      have HDJ := Lib.hid hd
      have HJL := Lib.hid hlt
      clear hD hd hu kt kk d2 d3 hlt
      by_cases hk : d.1 = (k1, k2)
      · have hek : ∀ w, (binOp .eql 35 (.agg #[.int .i64 d.1.1, .int .u32 d.1.2]) (.agg #[.int .i64 k1, .int .u32 k2])).run Try.prog w = .ok (.bool true) w := fun w => by
          have := run_eql_key w d.1 (k1, k2)
          rw [decide_eq_true hk] at this
          exact this
        have HR := Lib.hid (HRES.out j d HDJ.out HREL.out.2 hk)
        clear hk
        go_wp2_with fail
        go_quiet (fail)
        go_wp2_with fail
        go_ret
        exact ⟨by rw [HR.out]; rfl, (below_drewN (by have := HREL.out.1; exact Below.chain this HB0.out) _)⟩
      · have hek : ∀ w, (binOp .eql 35 (.agg #[.int .i64 d.1.1, .int .u32 d.1.2]) (.agg #[.int .i64 k1, .int .u32 k2])).run Try.prog w = .ok (.bool false) w := fun w => by
          have := run_eql_key w d.1 (k1, k2)
          rw [decide_eq_false hk] at this
          exact this
        have HNX : Hid (∀ (q : Nat) e, q < j + 1 → A[q]? = some e → ¬ e.1 = (k1, k2)) := Lib.hid fun q e hq he => by
          by_cases h9 : q = j
          · subst h9
            have := HDJ.out
            rw [he] at this
            cases this
            exact hk
          · exact HREL.out.2 q e (by omega) he
        clear hk
        go_wp2_with fail
        go_quiet (fail)
        go_wp2_with fail
        go_roundg (A.length - (j + 1))
        case measure => have := HJL.out; omega
        case rel => exact ⟨j + 1, Nat.le_refl _, HJL.out, by go_num, Lib.hid ⟨below_drewN HREL.out.1 _, HNX.out⟩⟩
    · obtain rfl : j = A.length := by omega
      have hlt' : ¬ (A.length : Int) < (A.length : Int) := by omega
      have HR := Lib.hid (HNO.out (fun q e he => HREL.out.2 q e (List.getElem?_eq_some_iff.1 he).1 he))
      clear hlt kt
      go_wp2_with fail
      go_ret
      exact ⟨by rw [HR.out]; rfl, Below.chain HREL.out.1 HB0.out⟩
end Go.Proofs.Ytnommofekjiiaaa
