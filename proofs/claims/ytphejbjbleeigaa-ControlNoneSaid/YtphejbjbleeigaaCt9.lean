/-
  What is to be said: the document's: like, Less, Drop, Clean (chapter 25).
-/
import Derived.Test.YtphejbjbleeigaaCt8
import Derived.Test.YtphejbjbleeigaaRg3
import Derived.BigQuiet
namespace Go.Proofs.Ytphejbjbleeigaa
open Go Go.RowKit
set_option linter.unusedVariables false
set_option maxRecDepth 100000
set_option maxHeartbeats 2000000
theorem like_sym (x d : Dg) : likeB x d = likeB d x := by
  unfold likeB
  rw [Bool.eq_iff_iff]
  simp only [Bool.and_eq_true, Bool.or_eq_true, beq_iff_eq, bne_iff_ne]
  constructor <;> rintro ⟨h1, h2, h3⟩ <;> refine ⟨h1.symm, h2.symm, ?_⟩
  · rw [← h1]; exact h3.imp id Eq.symm
  · rw [← h1]; exact h3.imp id Eq.symm
theorem like_trans {x y z : Dg} (h : likeB x y = true) : likeB x z = likeB y z := by
  unfold likeB at *
  simp only [Bool.and_eq_true, Bool.or_eq_true, beq_iff_eq, bne_iff_ne] at h
  obtain ⟨h1, h2, h3⟩ := h
  rw [Bool.eq_iff_iff]
  simp only [Bool.and_eq_true, Bool.or_eq_true, beq_iff_eq, bne_iff_ne]
  rw [h1, h2]
  rw [h1] at h3
  constructor <;> rintro ⟨g1, g2, g3⟩ <;> refine ⟨g1, g2, ?_⟩
  · rcases h3 with h3 | h3
    · exact .inl h3
    · rw [← h3]; exact g3
  · rcases h3 with h3 | h3
    · exact .inl h3
    · rw [h3]; exact g3
/-- None of them takes another one's place. -/
def Apart25 (ds : List Dg) : Prop := ds.Pairwise fun x y => likeB x y = false
def rAskL (ds : List Dg) (d : Dg) : List Dg := ds.map (fun x => if likeB x d = true then d else x) ++ (if ds.any (fun x => likeB x d) = true then [] else [d])
theorem map_same {ds : List Dg} {d : Dg} (h : ∀ x ∈ ds, likeB x d = false) : ds.map (fun x => if likeB x d = true then d else x) = ds := by
  have : ds.map (fun x => if likeB x d = true then d else x) = ds.map id := List.map_congr_left (fun x hx => by rw [if_neg (by simp [h x hx])]; rfl)
  rw [this, List.map_id]
theorem ask_eq : ∀ {ds : List Dg} (d : Dg), Apart25 ds → rAskL ds d = askL ds d
  | [], d, _ => rfl
  | x :: ds, d, h => by
    obtain ⟨h1, h2⟩ := List.pairwise_cons.1 h
    have ih := ask_eq d h2
    by_cases hx : likeB x d = true
    · have hn : ∀ y ∈ ds, likeB y d = false := fun y hy => by
        rw [like_sym, ← like_trans hx]
        exact h1 y hy
      unfold rAskL askL
      rw [List.map_cons, if_pos hx, map_same hn, List.any_cons, hx, Bool.true_or, if_pos rfl, List.append_nil, List.findIdx?_cons, hx]
      rfl
    · have hx' : likeB x d = false := by simpa using hx
      unfold rAskL askL at *
      rw [List.map_cons, if_neg hx, List.any_cons, hx', Bool.false_or, List.cons_append, ih, List.findIdx?_cons, hx']
      cases ds.findIdx? (fun x => likeB x d) <;> rfl
theorem Apart25.filter {ds : List Dg} (h : Apart25 ds) (p : Dg → Bool) : Apart25 (keptD p ds) := List.Pairwise.filter _ h
theorem Apart25.ask {ds : List Dg} (h : Apart25 ds) (d : Dg) : Apart25 (askL ds d) := by
  unfold askL
  cases hf : ds.findIdx? (fun x => likeB x d) with
  | none =>
    have hn := List.findIdx?_eq_none_iff.1 hf
    show Apart25 (ds ++ [d])
    unfold Apart25
    rw [List.pairwise_append]
    exact ⟨h, by simp, fun a ha b hb => by rw [List.mem_singleton.1 hb]; exact hn a ha⟩
  | some i =>
    obtain ⟨hi, h1, _⟩ := List.findIdx?_eq_some_iff_getElem.1 hf
    show Apart25 (ds.set i d)
    unfold Apart25 at *
    rw [List.pairwise_iff_getElem] at *
    intro a b ha hb hab
    rw [List.length_set] at ha hb
    rw [List.getElem_set, List.getElem_set]
    have hh := h a b ha hb hab
    by_cases ea : i = a
    · subst ea
      rw [if_pos rfl, if_neg (by omega)]
      rw [← like_trans (z := ds[b]) h1]
      exact hh
    · rw [if_neg ea]
      by_cases eb : i = b
      · subst eb
        rw [if_pos rfl, like_sym, ← like_trans (z := ds[a]) h1, like_sym]
        exact hh
      · rw [if_neg eb]
        exact hh
theorem rlike_any (x d : Dg) (w : World) : Calls Try.prog 72 #[x.val, d.val] w (RetB (.bool (likeB x d)) w) := by
  obtain ⟨xk, xs, xb, xi, xkk, xn, xl, xc, xh, xbd⟩ := x
  obtain ⟨dk, ds, db, di, dkk, dn, dl, dc, dh, dbd⟩ := d
  obtain ⟨W, hW⟩ : ∃ W, (w.alloc (.cells #[.int .i64 xk, .int .i64 xs, .int .u32 xb, .int .i64 xi, .int .i64 xkk, .int .i64 xn, .int .i64 xl, .int .i64 xc, Str xh, Str xbd] 24)).alloc (.cells #[.int .i64 dk, .int .i64 ds, .int .u32 db, .int .i64 di, .int .i64 dkk, .int .i64 dn, .int .i64 dl, .int .i64 dc, Str dh, Str dbd] 24) = W := ⟨_, rfl⟩
  have hB : Below w.heap.size w W := hW ▸ ((Below.refl _ w).alloc (Nat.le_refl _) _).alloc (by simp) _
  have k1 : Blk W w.heap.size #[.int .i64 xk, .int .i64 xs, .int .u32 xb, .int .i64 xi, .int .i64 xkk, .int .i64 xn, .int .i64 xl, .int .i64 xc, Str xh, Str xbd] 24 := hW ▸ (Blk.new w _ _).alloc _
  have k2 : Blk W (w.heap.size + 1) #[.int .i64 dk, .int .i64 ds, .int .u32 db, .int .i64 di, .int .i64 dkk, .int .i64 dn, .int .i64 dl, .int .i64 dc, Str dh, Str dbd] 24 := hW ▸ Blk.newAt (by simp)
  have x0 : W.cell? ⟨w.heap.size, 0, none⟩ = some (.int .i64 xk) := k1.facts.1 0
  have x1 : W.cell? ⟨w.heap.size, 1, none⟩ = some (.int .i64 xs) := k1.facts.1 1
  have x2 : W.cell? ⟨w.heap.size, 2, none⟩ = some (.int .u32 xb) := k1.facts.1 2
  have y0 : W.cell? ⟨w.heap.size + 1, 0, none⟩ = some (.int .i64 dk) := k2.facts.1 0
  have y1 : W.cell? ⟨w.heap.size + 1, 1, none⟩ = some (.int .i64 ds) := k2.facts.1 1
  have y2 : W.cell? ⟨w.heap.size + 1, 2, none⟩ = some (.int .u32 db) := k2.facts.1 2
  have HB := Lib.hid hB
  clear hB k1 k2
  have HW := Lib.hid hW
  clear hW
  go_enter Try.func72, Try.ntmps72
  go_upto_region 1 with fail
  rw [HW.out]
  clear HW
  by_cases h1 : xk = dk
  · by_cases h2 : xs = ds
    · by_cases h3 : xk = 3
      · by_cases h4 : xb = db
        · subst h1 h2 h3 h4
          go_wp2_with fail
          go_ret
          exact ⟨by simp [likeB, *], HB.out⟩
        · have h4' : (xb == db) = false := by simpa using h4
          subst h1 h2 h3
          go_wp2_with fail
          go_ret
          exact ⟨by simp [likeB, *], HB.out⟩
      · have h3' : (xk != 3) = true := by simpa using h3
        subst h1 h2
        go_wp2_with fail
        go_ret
        exact ⟨by simp [likeB, *], HB.out⟩
    · have h2' : (xs == ds) = false := by simpa using h2
      subst h1
      go_wp2_with fail
      go_ret
      exact ⟨by simp [likeB, *], HB.out⟩
  · have h1' : (xk == dk) = false := by simpa using h1
    go_wp2_with fail
    go_ret
    exact ⟨by simp [likeB, *], HB.out⟩
theorem rahead_any (a b : Int) (w : World) (ha : 0 ≤ a ∧ a < 4294967296) (hb : 0 ≤ b ∧ b < 4294967296) : Calls Try.prog 111 #[.int .u32 a, .int .u32 b] w fun e w' => e = .returned (.int .i64 (ahead a b)) ∧ w' = w := by
  have e1 : wrap64 (b - a) = b - a := IntWalk.wrap64_in _ (by omega)
  by_cases h1 : b - a < 0
  · have e2 : wrap64 (b - a + 4294967296) = b - a + 4294967296 := IntWalk.wrap64_in _ (by omega)
    by_cases h2 : 2147483648 ≤ b - a + 4294967296
    · have e3 : b - a = ahead a b := by
        unfold ahead
        clear e1 e2
        split <;> omega
      go_enter Try.func111, Try.ntmps111
      go_wp2_with fail
      go_ret
      exact ⟨by rw [← e3]; rfl, rfl⟩
    · have e3 : b - a + 4294967296 = ahead a b := by
        unfold ahead
        split <;> omega
      go_enter Try.func111, Try.ntmps111
      go_wp2_with fail
      go_ret
      exact ⟨by rw [← e3]; rfl, rfl⟩
  · by_cases h2 : 2147483648 ≤ b - a
    · have e3 : b - a - 4294967296 = ahead a b := by
        unfold ahead
        split <;> omega
      go_enter Try.func111, Try.ntmps111
      go_wp2_with fail
      go_ret
      exact ⟨by rw [← e3]; rfl, rfl⟩
    · have e3 : b - a = ahead a b := by
        unfold ahead
        split <;> omega
      go_enter Try.func111, Try.ntmps111
      go_wp2_with fail
      go_ret
      exact ⟨by rw [← e3]; rfl, rfl⟩
theorem rless_any (a b : Int) (w : World) (ha : 0 ≤ a ∧ a < 4294967296) (hb : 0 ≤ b ∧ b < 4294967296) : Calls Try.prog 75 #[.int .u32 a, .int .u32 b] w fun e w' => e = .returned (.bool (decide (0 < ahead a b))) ∧ w' = w := by
  have H := Lib.hid (rahead_any a b w ha hb)
  generalize ahead a b = x at *
  go_enter Try.func75, Try.ntmps75
  go_wp2_with fail
  refine H.out.mono ?_
  rintro e w1 ⟨rfl, rfl⟩
  go_wp2_with fail
  go_ret
  exact ⟨by simp, rfl⟩
end Go.Proofs.Ytphejbjbleeigaa
