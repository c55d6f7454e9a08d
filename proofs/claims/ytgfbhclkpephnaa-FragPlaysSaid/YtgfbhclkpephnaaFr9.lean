/-
  Frag: reading a part (chapter 49).
-/
import Derived.Test.YtgfbhclkpephnaaFr8
import Derived.Test.YtgfbhclkpephnaaWireT
namespace Go.Proofs.Ytgfbhclkpephnaa
open Go Go.RowKit
set_option linter.unusedVariables false
set_option maxRecDepth 100000
set_option maxHeartbeats 8000000
def pt0 : Pt := ⟨0, 0, 0, []⟩
theorem fread_cut (s : List UInt8) (hs : s.length ≤ 6) (w : World) : Calls Try.prog 70 #[Str s] w fun x w' => x = .returned (.tuple #[pt0.val, .int .i64 4]) ∧ Below w.heap.size w w' := by
  have h1 : (s.length : Int) ≤ 6 := by omega
  go_enter Try.func70, Try.ntmps70
  go_wp2
  refine bodyPost_ret (v := .tuple #[pt0.val, .int .i64 4]) (by simp [results, Try.results70, go_sem, pt0, Pt.val]) rfl ⟨rfl, ?_⟩
  exact Below.chainAlloc (Below.refl _ _) _
theorem num_f (b : Nat) (l : List UInt8) (n : Nat) (hn : n = 1 ∨ n = 4) (hl : n ≤ l.length) (w : World) (h : Rd w b l 0) :
    Calls Try.prog 93 #[.pointer (some ⟨b, 0, none⟩), .int .i64 (n : Int)] w fun x w' => x = .returned (.int .u32 (unbe (l.take n))) ∧ Rd w' b (l.drop n) 0 ∧ Only [b] w w' := by
  have hb : badB (n : Int) = false := by rcases hn with rfl | rfl <;> rfl
  have h' := num_any b l 0 (n : Int) w h
  have e : tk l 0 (n : Int) (badB (n : Int)) = (l.take n, l.drop n, 0) := by
    unfold tk
    rw [if_neg (by simp), hb, if_neg (by simp), if_neg (by omega)]
    simp
  rw [e] at h'
  exact h'
theorem rd_drew {w : World} {b : Nat} {l : List UInt8} {e : Int} (h : Rd w b l e) : Rd w.drew b l e := h
theorem rd_alloc {w : World} {b : Nat} {l : List UInt8} {e : Int} {o : Obj} (h : Rd w b l e) : Rd (w.alloc o) b l e := ⟨h.1.alloc _, h.2⟩
def ptS (s : List UInt8) : Pt := ⟨unbe (s.take 4), unbe ((s.drop 4).take 1), unbe ((s.drop 5).take 1), s.drop 6⟩
theorem one_lt (l : List UInt8) (h : l.length ≤ 1) : 0 ≤ unbe l ∧ unbe l < 256 := by
  have := unbe_lt l
  have h2 : (256 : Int) ^ l.length ≤ 256 := by
    match l, h with
    | [], _ => decide
    | [a], _ => simp
  exact ⟨this.1, by omega⟩
theorem fread_ok (s : List UInt8) (hs : 7 ≤ s.length) (hl : s.length ≤ 1000000) (w : World) : Calls Try.prog 70 #[Str s] w fun x w' => x = .returned (if (ptS s).n ≤ (ptS s).place then .tuple #[pt0.val, .int .i64 5] else .tuple #[(ptS s).val, .int .i64 0]) ∧ Below w.heap.size w w' := by
  have h1 : ¬ (s.length : Int) ≤ 6 := by omega
  have hk := Blk.new w #[.int .u32 0, .int .i64 0, .int .i64 0, .string ⟨#[]⟩] 154
  have HB := Lib.hid (Below.chainAlloc (Below.refl _ w) (.cells #[.int .u32 0, .int .i64 0, .int .i64 0, .string ⟨#[]⟩] 154))
  have hp := one_lt ((s.drop 4).take 1) (by simp; omega)
  have hn := one_lt ((s.drop 5).take 1) (by simp; omega)
  have hp2 : IntKind.i64.wrap (unbe ((s.drop 4).take 1)) = unbe ((s.drop 4).take 1) := IntWalk.i64_in _ (by omega)
  have hn2 : IntKind.i64.wrap (unbe ((s.drop 5).take 1)) = unbe ((s.drop 5).take 1) := IntWalk.i64_in _ (by clear hp2; omega)
  have hx : (⟨s.toArray⟩ : ByteArray).extract 6 s.length = ⟨(s.drop 6).toArray⟩ := by rw [ext_list, List.take_length]
  have h6 : (6 : Int) ≤ (s.length : Int) := by clear hp2 hn2; omega
  have H1 : Hid (∀ b w', Rd w' b s 0 → Calls Try.prog 93 #[.pointer (some ⟨b, 0, none⟩), .int .i64 4] w' fun x w'' => x = .returned (.int .u32 (unbe (s.take 4))) ∧ Rd w'' b (s.drop 4) 0 ∧ Only [b] w' w'') := Lib.hid fun b w' h => num_f b s 4 (.inr rfl) (by clear hp2 hn2; omega) w' h
  have H2 : Hid (∀ b w', Rd w' b (s.drop 4) 0 → Calls Try.prog 93 #[.pointer (some ⟨b, 0, none⟩), .int .i64 1] w' fun x w'' => x = .returned (.int .u32 (unbe ((s.drop 4).take 1))) ∧ Rd w'' b (s.drop 5) 0 ∧ Only [b] w' w'') := Lib.hid fun b w' h => by
    have := num_f b (s.drop 4) 1 (.inl rfl) (by clear hp2 hn2; simp; omega) w' h
    rwa [List.drop_drop] at this
  have H3 : Hid (∀ b w', Rd w' b (s.drop 5) 0 → Calls Try.prog 93 #[.pointer (some ⟨b, 0, none⟩), .int .i64 1] w' fun x w'' => x = .returned (.int .u32 (unbe ((s.drop 5).take 1))) ∧ Rd w'' b (s.drop 6) 0 ∧ Only [b] w' w'') := Lib.hid fun b w' h => by
    have := num_f b (s.drop 5) 1 (.inl rfl) (by clear hp2 hn2; simp; omega) w' h
    rwa [List.drop_drop] at this
  have HK := Lib.hid hk
  clear hk
  unfold ptS
  dsimp only
  unfold Pt.val pt0
  dsimp only
  generalize s.drop 4 = s4 at *
  generalize s.drop 5 = s5 at *
  generalize s.drop 6 = s6 at *
  generalize unbe (s.take 4) = X at *
  generalize unbe (s4.take 1) = P at *
  generalize unbe (s5.take 1) = N at *
  go_enter Try.func70, Try.ntmps70
  go_wp2_with fail
  refine (new_any s (by clear hp2 hn2; omega) _).mono ?_
  rintro x w1 ⟨rfl, hrd, hb⟩
  rw [size_alloc] at hrd
  have HB1 := Lib.hid (Below.chain hb HB.out)
  have HK1 := Lib.hid (HK.out.below hb HK.out.lt)
  have HR := Lib.hid hrd
  clear hb HB HK hrd
  go_upto_region 4 with fail
  obtain ⟨rb, hrb⟩ : ∃ rb, w.heap.size + 1 = rb := ⟨_, rfl⟩
  rw [hrb] at HR ⊢
  have HRB : Hid (w.heap.size < rb ∧ rb < w1.heap.size) := Lib.hid ⟨by clear hp2 hn2; omega, HR.out.1.lt⟩
  have HRA : Hid (w.heap.size ∉ [rb] ∧ ∀ x ∈ [rb], w.heap.size ≤ x) := Lib.hid (by clear hp2 hn2; have := HRB.out; simp; omega)
  have HRN : Hid (∀ k, w1.heap.size ≤ k → k ∉ [rb]) := Lib.hid (fun k hk => by clear hp2 hn2; have := HRB.out; simp; omega)
  clear hrb
  go_cut [5] (fun s5 wx => ∃ g : Nat, s5 = .pointer (some ⟨g, 0, none⟩) ∧ Blk wx g #[.int .u32 X, .int .i64 P, .int .i64 N, Str s6] 154 ∧ Only [rb] w1 wx)
  case first =>
    have hr0 : Rd w1.drew rb s 0 := HR.out
    go_region_held3 (fun w' => Only [rb] w1 w')
      (first
        | with_reducible exact hO3
        | with_reducible exact hO2
        | with_reducible exact hO1
        | with_reducible exact (Only.refl _ _).drew
        | with_reducible exact (Only.of_below (Below.chainAlloc (Below.refl _ _) _)).drew
        | with_reducible exact Only.refl _ _
        | with_reducible exact hO3.trans (Only.of_below (Below.chainAlloc (Below.refl _ _) _))
        | with_reducible exact hO2.trans (Only.of_below (Below.chainAlloc (Below.refl _ _) _))
        | with_reducible exact hO1.trans (Only.of_below (Below.chainAlloc (Below.refl _ _) _))
        | with_reducible exact (Only.refl _ _).drew.trans (Only.of_below (Below.chainAlloc (Below.refl _ _) _))
        | with_reducible exact (Only.refl _ _).trans (Only.of_below (Below.chainAlloc (Below.refl _ _) _))
        | with_reducible exact (((hO3.setCell _ _ (.inr kg)).setCell _ _ (.inr kg)).setCell _ _ (.inr kg)).setCell _ _ (.inr kg))
      ((go_at_call 93; first
        | (with_reducible refine (H3.out _ _ hr2).mono ?_; rintro x w4 ⟨rfl, hr3, ho3⟩; have hO3 : Only [rb] w1 w4 := hO2.trans ho3; try (have kb3 := Blk.only kb2 ho3 (HRN.out _ kg2); obtain ⟨c1, f1, l1⟩ := kb3.facts; have kg := kg2))
        | (with_reducible refine (H3.out _ _ (rd_alloc hr2)).mono ?_; rintro x w4 ⟨rfl, hr3, ho3⟩; have hO3 : Only [rb] w1 w4 := (hO2.trans (Only.of_below (Below.chainAlloc (Below.refl _ _) _))).trans ho3; have kb3 := Blk.only (Blk.new _ _ _) ho3 (HRN.out _ hO2.size); obtain ⟨c1, f1, l1⟩ := kb3.facts; have kg := hO2.size)
        | (with_reducible refine (H2.out _ _ hr1).mono ?_; rintro x w3 ⟨rfl, hr2, ho2⟩; have hO2 : Only [rb] w1 w3 := hO1.trans ho2; try (have kb2 := Blk.only kb1 ho2 (HRN.out _ kg1); have kg2 := kg1))
        | (with_reducible refine (H2.out _ _ (rd_alloc hr1)).mono ?_; rintro x w3 ⟨rfl, hr2, ho2⟩; have hO2 : Only [rb] w1 w3 := (hO1.trans (Only.of_below (Below.chainAlloc (Below.refl _ _) _))).trans ho2; have kb2 := Blk.only (Blk.new _ _ _) ho2 (HRN.out _ hO1.size); have kg2 := hO1.size)
        | (with_reducible refine (H1.out _ _ hr0).mono ?_; rintro x w2 ⟨rfl, hr1, ho1⟩; have hO1 : Only [rb] w1 w2 := (Only.refl _ _).drew.trans ho1)
        | (with_reducible refine (H1.out _ _ (rd_drew (rd_alloc HR.out))).mono ?_; rintro x w2 ⟨rfl, hr1, ho1⟩; have hO1 : Only [rb] w1 w2 := (Only.of_below (Below.chainAlloc (Below.refl _ _) _)).drew.trans ho1; have kb1 := Blk.only (Blk.new _ _ _).drew ho1 (HRN.out _ (Nat.le_refl _)); have kg1 := Nat.le_refl w1.heap.size)))
    all_goals
      go_wp2_with fail
      go_meet
      first
        | with_reducible exact ⟨_, rfl, Blk.new _ _ _, hO3.trans (Only.of_below (Below.chainAlloc (Below.refl _ _) _))⟩
        | exact ⟨_, rfl, (((kb3.setAt 0 _ rfl).setAt 1 _ rfl).setAt 2 _ rfl).setAt 3 _ (by simp), (((hO3.setCell _ _ (.inr kg)).setCell _ _ (.inr kg)).setCell _ _ (.inr kg)).setCell _ _ (.inr kg)⟩
  case rest =>
    obtain ⟨g, rfl, hg, ho⟩ := hcut
    have hz := HK1.out.only ho HRA.out.1
    have HB2 := Lib.hid (Below.only HB1.out ho HRA.out.2)
    obtain ⟨c1, f1, l1⟩ := hz.facts
    have g0 := hg.facts.1 0
    have g1 := hg.facts.1 1
    have g2 := hg.facts.1 2
    have g3 := hg.facts.1 3
    clear HR HRB HRN HRA HB1 HK1 H1 H2 H3 hg hz ho hp2 hn2
    by_cases hle : N ≤ P
    · go_wp2_with fail
      refine bodyPost_ret (v := .tuple #[.agg #[.int .u32 0, .int .i64 0, .int .i64 0, Str []], .int .i64 5]) (by simp [results, Try.results70, go_sem, c1]) rfl ⟨rfl, ?_⟩
      exact (((HB2.out.setCell (Nat.le_refl _) _).setCell (Nat.le_refl _) _).setCell (Nat.le_refl _) _).setCell (Nat.le_refl _) _
    · go_wp2_with fail
      refine bodyPost_ret (v := .tuple #[.agg #[.int .u32 X, .int .i64 P, .int .i64 N, Str s6], .int .i64 0]) (by simp [results, Try.results70, go_sem, c1]) rfl ⟨rfl, ?_⟩
      exact (((HB2.out.setCell (Nat.le_refl _) _).setCell (Nat.le_refl _) _).setCell (Nat.le_refl _) _).setCell (Nat.le_refl _) _
end Go.Proofs.Ytgfbhclkpephnaa
