/-
  cmp.Compare, cmp.Or of two; calls.order; the sort of what waits (chapter 29).
-/
import Derived.Test.YtjfmjehacaemcaaCl3
import Derived.Test.YtjfmjehacaemcaaClShelf
import Derived.Test.YtjfmjehacaemcaaSrtK
import Derived.Shelf.SlSortCmp.NoneTotal
namespace Go.Proofs.Ytjfmjehacaemcaa
open Go Go.RowKit
open Go.Shelf Go.Sort
set_option linter.unusedVariables false
set_option maxRecDepth 100000
set_option maxHeartbeats 2000000
def cmpI (x y : Int) : Int := if x < y then -1 else if y < x then 1 else 0
theorem nan_int (x : Int) (w : World) : Calls Try.prog 35 #[.int .i64 x] w fun e w' => e = .returned (.bool false) ∧ w = w' := by
  have h : (x != x) = false := by simp
  go_enter Try.func35, Try.ntmps35
  go_wp2
  go_ret
  exact ⟨by simp, rfl⟩
theorem cmp_int (x y : Int) (w : World) : Calls Try.prog 24 #[.int .i64 x, .int .i64 y] w fun e w' => e = .returned (.int .i64 (cmpI x y)) ∧ w = w' := by
  unfold cmpI
  by_cases h1 : x < y
  · rw [if_pos h1]
    go_enter Try.func24, Try.ntmps24
    go_wp2_with (go_at_call 35; refine (nan_int _ _).mono ?_; rintro e w' ⟨rfl, rfl⟩)
    go_ret
    exact ⟨rfl, rfl⟩
  · rw [if_neg h1]
    by_cases h2 : y < x
    · rw [if_pos h2]
      go_enter Try.func24, Try.ntmps24
      go_wp2_with (go_at_call 35; refine (nan_int _ _).mono ?_; rintro e w' ⟨rfl, rfl⟩)
      go_ret
      exact ⟨rfl, rfl⟩
    · rw [if_neg h2]
      go_enter Try.func24, Try.ntmps24
      go_wp2_with (go_at_call 35; refine (nan_int _ _).mono ?_; rintro e w' ⟨rfl, rfl⟩)
      go_ret
      exact ⟨rfl, rfl⟩
theorem cmpI_cases (x y : Int) : (x < y ∧ cmpI x y = -1) ∨ (y < x ∧ cmpI x y = 1) ∨ (x = y ∧ cmpI x y = 0) := by
  unfold cmpI
  by_cases h1 : x < y
  · left; simp [h1]
  · by_cases h2 : y < x
    · right; left; simp [h1, h2]
    · right; right; simp [h1, h2]; omega
/-- The first one that is not nought, of two. -/
def or2 (a b : Int) : Int := if a ≠ 0 then a else b
theorem or_two (a b : Int) (g cap : Nat) (w : World) (h0 : w.cell? ⟨g, 0, none⟩ = some (.int .i64 a)) (h1 : w.cell? ⟨g, 1, none⟩ = some (.int .i64 b)) :
    Calls Try.prog 23 #[.slice (some ⟨g, 0, none⟩) 2 cap] w fun e w' => e = .returned (.int .i64 (or2 a b)) ∧ w = w' := by
  unfold or2
  by_cases ha : a = 0
  · subst ha
    rw [if_neg (by simp)]
    by_cases hb : b = 0
    · subst hb
      go_enter Try.func23, Try.ntmps23
      go_wp2
      refine wp_loop_rounds 3 ?_
      iterate 3 (rw [rounds_succ]; go_wp2_with fail)
      go_ret
      exact ⟨rfl, rfl⟩
    · have hb' : (b != 0) = true := by simpa using hb
      go_enter Try.func23, Try.ntmps23
      go_wp2
      refine wp_loop_rounds 2 ?_
      iterate 2 (rw [rounds_succ]; go_wp2_with fail)
      go_ret
      exact ⟨rfl, rfl⟩
  · have ha' : (a != 0) = true := by simpa using ha
    rw [if_pos ha]
    go_enter Try.func23, Try.ntmps23
    go_wp2
    refine wp_loop_rounds 1 ?_
    iterate 1 (rw [rounds_succ]; go_wp2_with fail)
    go_ret
    exact ⟨rfl, rfl⟩
/-- What 'order' answers. -/
def ordW (x y : Wt) : Int := or2 (cmpI x.stream y.stream) (cmpI x.kind y.kind)
theorem ordW_lt (x y : Wt) : ordW x y < 0 ↔ Wt.lt x y := by
  unfold ordW or2 Wt.lt
  rcases cmpI_cases x.stream y.stream with ⟨h1, e1⟩ | ⟨h1, e1⟩ | ⟨h1, e1⟩ <;> rcases cmpI_cases x.kind y.kind with ⟨h2, e2⟩ | ⟨h2, e2⟩ | ⟨h2, e2⟩ <;> rw [e1, e2] <;> simp <;> omega
def wtC (d : Wt) : List Value := [.int .i64 d.id, .int .i64 d.kind, .int .i64 d.stream, .int .i64 d.n, Str d.body]
theorem orderW_any (x y : Wt) (w : World) : Calls Try.prog 20 #[.agg (wtC x).toArray, .agg (wtC y).toArray] w fun e w' => e = .returned (.int .i64 (ordW x y)) ∧ ∃ q os', w' = grow (w.drewN q) os' := by
  obtain ⟨i1, a1, s1, n1, b1⟩ := x
  obtain ⟨i2, a2, s2, n2, b2⟩ := y
  unfold ordW wtC
  dsimp only
  have HI1 := Lib.hid (fun w' => (cmp_int s1 s2 w').mono fun _ _ h => (⟨h.1, h.2.symm⟩ : _ ∧ _ = w'))
  have HI2 := Lib.hid (fun w' => (cmp_int a1 a2 w').mono fun _ _ h => (⟨h.1, h.2.symm⟩ : _ ∧ _ = w'))
  have HO := Lib.hid (or_two (cmpI s1 s2) (cmpI a1 a2))
  generalize cmpI s1 s2 = p1 at *
  generalize cmpI a1 a2 = p2 at *
  generalize or2 p1 p2 = r at *
  have k1 := (Blk.new w #[.int .i64 i1, .int .i64 a1, .int .i64 s1, .int .i64 n1, Str b1] 30).alloc (.cells #[.int .i64 i2, .int .i64 a2, .int .i64 s2, .int .i64 n2, Str b2] 30)
  have k2 := Blk.new (w.alloc (.cells #[.int .i64 i1, .int .i64 a1, .int .i64 s1, .int .i64 n1, Str b1] 30)) #[.int .i64 i2, .int .i64 a2, .int .i64 s2, .int .i64 n2, Str b2] 30
  rw [size_alloc] at k2
  obtain ⟨W, hW⟩ : ∃ W, (w.alloc (.cells #[.int .i64 i1, .int .i64 a1, .int .i64 s1, .int .i64 n1, Str b1] 30)).alloc (.cells #[.int .i64 i2, .int .i64 a2, .int .i64 s2, .int .i64 n2, Str b2] 30) = W := ⟨_, rfl⟩
  rw [hW] at k1 k2
  have x1 := k1.facts.1 1
  have x2 := k1.facts.1 2
  have y1 := k2.facts.1 1
  have y2 := k2.facts.1 2
  have hg : W = grow w #[.cells #[.int .i64 i1, .int .i64 a1, .int .i64 s1, .int .i64 n1, Str b1] 30, .cells #[.int .i64 i2, .int .i64 a2, .int .i64 s2, .int .i64 n2, Str b2] 30] := by
    rw [← hW, alloc_eq_grow, alloc_eq_grow, grow_grow]
    rfl
  have HW := Lib.hid hW
  have HG := Lib.hid hg
  clear hW hg k1 k2
  go_enter Try.func20, Try.ntmps20
  go_upto_region 1 with fail
  rw [HW.out]
  refine wp_region_still_tail 14 (by kernel_rfl) (by kernel_rfl) ?_
  simp only [List.take_succ_cons, List.take_zero, List.drop_succ_cons, List.drop_zero]
  iterate 6 still_step
  still_call (HI1.out _)
  iterate 6 still_step
  still_call (HI2.out _)
  refine wpStill_nil ?_
  go_wp2_with fail
  have kz := Blk.new W #[.int .i64 p1, .int .i64 p2] 3
  have kz0 : (W.alloc (.cells #[.int .i64 p1, .int .i64 p2] 3)).drew.cell? ⟨W.heap.size, 0, none⟩ = some (.int .i64 p1) := kz.facts.1 0
  have kz1 : (W.alloc (.cells #[.int .i64 p1, .int .i64 p2] 3)).drew.cell? ⟨W.heap.size, 1, none⟩ = some (.int .i64 p2) := kz.facts.1 1
  refine (HO.out _ _ _ kz0 kz1).mono ?_
  rintro e w' ⟨rfl, rfl⟩
  clear kz kz0 kz1
  go_wp2_with fail
  go_ret
  refine ⟨rfl, 1, #[.cells #[.int .i64 i1, .int .i64 a1, .int .i64 s1, .int .i64 n1, Str b1] 30, .cells #[.int .i64 i2, .int .i64 a2, .int .i64 s2, .int .i64 n2, Str b2] 30] ++ #[.cells #[.int .i64 p1, .int .i64 p2] 3], ?_⟩
  rw [HG.out, alloc_eq_grow, grow_grow]
  rfl
instance : Inhabited Wt := ⟨⟨0, 0, 0, 0, []⟩⟩
theorem wtC_len (d : Wt) : (wtC d).length = 5 := rfl
theorem ordW_b (x y : Wt) : ltOf ordW x y = decide (Wt.lt x y) := by
  unfold ltOf
  by_cases h : Wt.lt x y
  · simp [h, (ordW_lt x y).2 h]
  · simp [h]
    have := mt (ordW_lt x y).1 h
    omega
theorem swoW : SWO (ltOf ordW) where
  irrefl x := by rw [ordW_b]; simp [Wt.lt_irrefl]
  trans x y z h1 h2 := by
    rw [ordW_b] at *
    simp at *
    exact Wt.lt_trans h1 h2
  ntrans x y z h1 h2 := by
    rw [ordW_b] at *
    simp only [decide_eq_false_iff_not] at *
    unfold Wt.lt at *
    omega
def wtS (ds : List Wt) : List Value := ds.flatMap wtC
theorem wsorted_list {xs ys : List Wt} (hp : PermIn 0 xs.toArray.size xs.toArray ys.toArray) (hs : SortedIn (ltOf ordW) 0 xs.toArray.size ys.toArray) (hn : (xs.map Wt.key).Nodup) : ys.Perm xs ∧ ys.Pairwise Wt.lt := by
  have h1 : ys.length = xs.length := by simpa using hp.1
  have hp' : ys.Perm xs := by
    have := hp.2.2
    simpa [h1, List.take_of_length_le] using this
  refine ⟨hp', ?_⟩
  rw [List.pairwise_iff_getElem]
  intro i j hi hj hij
  have := hs i j (Nat.zero_le _) hij (by simpa using (h1 ▸ hj))
  rw [ordW_b] at this
  simp only [List.getElem!_toArray, decide_eq_false_iff_not] at this
  rw [List.getElem!_eq_getElem?_getD, List.getElem!_eq_getElem?_getD, List.getElem?_eq_getElem hi, List.getElem?_eq_getElem hj] at this
  simp only [Option.getD_some] at this
  have hne : ys[i].key ≠ ys[j].key := by
    have hn' : (ys.map Wt.key).Nodup := (hp'.map Wt.key).nodup_iff.2 hn
    have := (List.pairwise_iff_getElem.1 hn') i j (by simpa using hi) (by simpa using hj) hij
    simpa using this
  exact (Wt.lt_total hne).resolve_right this
def WSortPost (base : Nat) (v : Value) (xs : List Wt) (w : World) (e : Ending) (w' : World) : Prop :=
  e = .returned (.tuple #[]) ∧ ∃ ys : List Wt, ys.Perm xs ∧ ys.Pairwise Wt.lt ∧ Seg w' base 30 5 v xs.length (wtS ys) ∧ Only v.ownBlock.toList w w'
theorem sort_wait (base : Nat) (v : Value) (xs : List Wt) (w : World) (hs : Seg w base 30 5 v xs.length (wtS xs)) (hn : (xs.map Wt.key).Nodup) (hlen : xs.length ≤ 1000) :
    Calls Try.prog 19 #[v, .func (.func 20) #[] #[]] w (WSortPost base v xs w) := by
  by_cases h0 : xs = []
  · subst h0
    obtain ⟨a, cap, rfl⟩ := hs.form
    have := AnyF.slices_SortFunc_none Try.sortWait a cap (.func (.func 20) #[] #[]) w
    change Calls Try.prog 19 _ _ _ at this
    refine this.mono ?_
    rintro e w' ⟨rfl, rfl⟩
    exact ⟨rfl, [], List.Perm.refl _, List.Pairwise.nil, hs, Only.refl _ _⟩
  · have hpos : 0 < xs.length := List.length_pos_iff.2 h0
    obtain ⟨g, off, cap, rfl, hg, hgl, hcap, hm⟩ := hs.shape hpos
    have hmx : xs.length < 4611686018427387904 := by omega
    have eg : ∀ args w, (callFunc 20 args).run Try.prog w = .ok (.enter 20 args) w := enters_of Try.func20 (by kernel_rfl) rfl
    have := AnyQ.slices_SortFunc Try.sortWait 5 Try.isAgg30 Try.sizeOf30 wtC wtC_len (fun x v hv => by simp [wtC] at hv; rcases hv with rfl | rfl | rfl | rfl | rfl <;> rfl) ordW swoW 20 #[] g off cap xs.toArray w eg (fun _ _ _ _ x y => orderW_any x y _) (hs.holdsK wtC_len) hgl (by simpa using hmx)
    change Calls Try.prog 19 _ _ _ at this
    refine this.mono ?_
    rintro e w' ⟨rfl, d', n, os, hp, hso, rfl⟩
    obtain ⟨ys, rfl⟩ : ∃ ys : List Wt, d' = ys.toArray := ⟨d'.toList, by simp⟩
    have hl : ys.length = xs.length := by simpa using hp.1
    obtain ⟨h1, h2⟩ := wsorted_list hp hso hn
    obtain ⟨h3, h4⟩ := hs.sortedK wtC_len hl (m := n) (os := os)
    exact ⟨rfl, ys, h1, h2, h3, h4⟩
end Go.Proofs.Ytjfmjehacaemcaa
