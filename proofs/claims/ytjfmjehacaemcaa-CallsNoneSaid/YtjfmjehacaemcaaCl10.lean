/-
  Calls that wait: the program's and the document's side by side (chapter 29).
-/
import Derived.Test.YtjfmjehacaemcaaCl8
import Derived.Test.YtjfmjehacaemcaaCl9
import Derived.Test.YtjfmjehacaemcaaFlat
namespace Go.Proofs.Ytjfmjehacaemcaa
open Go Go.RowKit
set_option linter.unusedVariables false
set_option maxRecDepth 100000
set_option maxHeartbeats 2000000
open Go.ChangeShapes Go.WideShapes Go.ChangeAt
/-- The program's calls ds, the document's list xs, apart, behind w0's memory. -/
structure U29 (w0 : World) (bt bm : Nat) (xv : Value) (xs ds : List Wt) (w : World) : Prop where
  t : Cls w bt bm ds
  s : Seg w w0.heap.size 30 5 xv xs.length (wtS xs)
  ne : ∀ g, xv.ownBlock = some g → g ≠ bt ∧ g ≠ bm
  b : Below w0.heap.size w0 w
  h1 : w0.heap.size ≤ bt
  h2 : w0.heap.size ≤ bm
section
variable {w0 w w' : World} {bt bm : Nat} {xv xv' : Value} {xs xs' ds ds' : List Wt}
theorem U29.chain (h : U29 w0 bt bm xv xs ds w) (hb : Below w.heap.size w w') : U29 w0 bt bm xv xs ds w' :=
  ⟨h.t.chain hb, h.s.chain hb, h.ne, Below.chain hb h.b, h.h1, h.h2⟩
theorem U29.prog (h : U29 w0 bt bm xv xs ds w) (ht : Cls w' bt bm ds') (ho : Only [bm] w w') : U29 w0 bt bm xv xs ds' w' :=
  ⟨ht, h.s.only ho (fun g hg => by simp [(h.ne g hg).2]), h.ne, Below.only h.b ho (by simp [h.h2]), h.h1, h.h2⟩
theorem U29.fresh (h : U29 w0 bt bm xv xs ds w) (hb : Below w.heap.size w w') (hs : Seg w' w.heap.size 30 5 xv' xs'.length (wtS xs')) : U29 w0 bt bm xv' xs' ds w' := by
  refine ⟨h.t.chain hb, hs.le h.b.size, fun g hg => ?_, Below.chain hb h.b, h.h1, h.h2⟩
  have := (hs.blk g hg).1
  have := h.t.b.lt
  have := h.t.m.lt
  exact ⟨by omega, by omega⟩
end
structure CD29 where
  kind : Int
  d : Wt
def CD29.cells (c : CD29) : List Value := .int .i64 c.kind :: wtC c.d
theorem open_cd29 {H : Type} {enc : TypeId × Value → H} {W : World} {b : Nat} {sp : Nat → Bool} {hd : Bool} {a : Option Addr} {len cap : Nat} {d : DataW H} {p : List MemPlace}
    (h : DataW.Trod enc Try.prog W b sp hd 22 (.slice a len cap) d p) : ∃ ds : List CD29, IsRows 6 CD29.cells W a len cap ds := by
  obtain ⟨ds, h1, _⟩ := open_rows 6 CD29.cells (fun _ => True) Try.underlying22 (by kernel_rfl) (by decide) h fun cs m x hx => by
    have := flat_fits 9 m 32 [.int .i64, .int .i64, .int .i64, .int .i64, .int .i64, .str] cs x (by kernel_rfl) hx
    obtain ⟨_, _, rfl, ⟨k, rfl, wk⟩, _, _, rfl, ⟨z0, rfl, w0⟩, _, _, rfl, ⟨z1, rfl, w1⟩, _, _, rfl, ⟨z2, rfl, w2⟩, _, _, rfl, ⟨z3, rfl, w3⟩, _, _, rfl, ⟨z4, rfl, w4⟩, rfl⟩ := this
    exact ⟨⟨k, ⟨z0, z1, z2, z3, z4⟩⟩, rfl, trivial⟩
  exact ⟨ds, h1⟩
theorem IsRows.get {α : Type} {size : Nat} {encd : α → List Value} {w : World} {a : Option Addr} {len cap : Nat} {ds : List α} (h : IsRows size encd w a len cap ds) (k : Nat) (hk : k < len) :
    ∃ (g off : Nat) (hk' : k < ds.length), a = some ⟨g, off, none⟩ ∧ g < w.heap.size ∧ ∀ j, j < size → w.cell? ⟨g, off + k * size + j, none⟩ = (encd ds[k])[j]? := by
  obtain ⟨h1, _, _, h4⟩ := h
  obtain ⟨g, off, ha, hg, hc⟩ := h4.resolve_left (by omega)
  exact ⟨g, off, by omega, ha, hg, fun j hj => hc k (by omega) j hj⟩
/-! The deeds, each for both. -/
section
variable {w0 w w' : World} {bt bm : Nat} {xv : Value} {xs ds : List Wt}
/-- What is at a place, and whether anything is. -/
def gotW (k : Int × Int) (xs : List Wt) : Wt := (getW k xs).getD wt0
theorem p_get (s kd : Int) (h : U29 w0 bt bm xv xs ds w) (hr : CR ds xs) : Calls Try.prog 7 #[.pointer (some ⟨bt, 0, none⟩), .int .i64 s, .int .i64 kd] w fun e w' => e = .returned (.tuple #[(gotW (s, kd) xs).val, .bool (getW (s, kd) xs).isSome]) ∧ Below w.heap.size w w' := by
  unfold gotW
  rw [← hr.get]
  cases hk : getW (s, kd) ds with
  | none => exact cget_no s kd bt bm ds w h.t hk
  | some d => exact cget_yes s kd d bt bm ds w h.t hk
theorem r_get (s kd : Int) (h : U29 w0 bt bm xv xs ds w) (hl : xs.length ≤ 900) : Calls Try.prog 8 #[xv, .int .i64 s, .int .i64 kd] w fun e w' => e = .returned (.tuple #[(gotW (s, kd) xs).val, .bool (getW (s, kd) xs).isSome]) ∧ Below w.heap.size w w' := by
  unfold gotW
  cases hk : getW (s, kd) xs with
  | none => exact rget29_no s kd _ _ xs w h.s (by omega) hk
  | some d => exact rget29_yes s kd d _ _ xs w h.s (by omega) hk
/-- The error of an Ask; what is there behind it. -/
def askErr (d : Wt) (xs : List Wt) : Int := if d.kind < 2 ∨ 4 < d.kind ∨ d.stream < 0 ∨ 255 < d.stream then 1 else if (getW d.key xs).isSome then 18 else 0
def askXs (d : Wt) (xs : List Wt) : List Wt := if askErr d xs = 0 then insW d xs else xs
def askDs (d : Wt) (xs ds : List Wt) : List Wt := if askErr d xs = 0 then ds ++ [d] else ds
theorem ask_ok {d : Wt} {xs : List Wt} (h : askErr d xs = 0) : (2 ≤ d.kind ∧ d.kind ≤ 4 ∧ 0 ≤ d.stream ∧ d.stream ≤ 255) ∧ getW d.key xs = none := by
  unfold askErr at h
  split at h
  · cases h
  · split at h
    · cases h
    · rename_i h1 h2
      exact ⟨by omega, by simpa using h2⟩
theorem CR.asked {d : Wt} (h : CR ds xs) : CR (askDs d xs ds) (askXs d xs) := by
  unfold askDs askXs
  by_cases he : askErr d xs = 0
  · rw [if_pos he, if_pos he]
    obtain ⟨h1, h2⟩ := ask_ok he
    exact h.ask d (by rw [h.get]; exact h2) ⟨h1.1, h1.2.1⟩
  · rw [if_neg he, if_neg he]
    exact h
theorem askXs_len (d : Wt) (xs : List Wt) : (askXs d xs).length ≤ xs.length + 1 := by
  unfold askXs
  split
  · rw [insW_perm.length_eq]; simp
  · omega
theorem r_ask29 (d : Wt) (h : U29 w0 bt bm xv xs ds w) (hl : xs.length ≤ 900) : Calls Try.prog 9 #[xv, d.val] w fun e w' => ∃ xv', e = .returned (.tuple #[xv', .int .i64 (askErr d xs)]) ∧ U29 w0 bt bm xv' (askXs d xs) ds w' ∧ Below w.heap.size w w' := by
  unfold askXs
  by_cases he : askErr d xs = 0
  · rw [if_pos he, he]
    obtain ⟨h1, h2⟩ := ask_ok he
    refine (rask29_ok d _ xv xs w h.s hl h1 h2).mono ?_
    rintro e w' ⟨v', h3, h4, h5⟩
    exact ⟨v', h3, h.fresh h5 h4, h5⟩
  · rw [if_neg he]
    by_cases hb : d.kind < 2 ∨ 4 < d.kind ∨ d.stream < 0 ∨ 255 < d.stream
    · have e1 : askErr d xs = 1 := by unfold askErr; rw [if_pos hb]
      rw [e1]
      obtain ⟨a, c, rfl⟩ := h.s.form
      refine (rask29_bad d a _ c w hb).mono ?_
      rintro e w' ⟨h3, h5⟩
      exact ⟨_, h3, h.chain h5, h5⟩
    · have hs : ∃ d', getW d.key xs = some d' := by
        unfold askErr at he
        rw [if_neg hb] at he
        cases hg : getW d.key xs with
        | none => rw [hg] at he; simp at he
        | some d' => exact ⟨d', rfl⟩
      obtain ⟨d', hd'⟩ := hs
      have e1 : askErr d xs = 18 := by unfold askErr; rw [if_neg hb, hd']; rfl
      rw [e1]
      refine (rask29_busy d d' _ xv xs w h.s hl (by omega) hd').mono ?_
      rintro e w' ⟨h3, h5⟩
      exact ⟨_, h3, h.chain h5, h5⟩
theorem p_ask29 (d : Wt) {xs' : List Wt} (h : U29 w0 bt bm xv xs' ds w) (hr : CR ds xs) : Calls Try.prog 10 #[.pointer (some ⟨bt, 0, none⟩), d.val] w fun e w' => e = .returned (.int .i64 (askErr d xs)) ∧ U29 w0 bt bm xv xs' (askDs d xs ds) w' ∧ Only [bm] w w' := by
  unfold askDs
  by_cases he : askErr d xs = 0
  · rw [if_pos he, he]
    obtain ⟨h1, h2⟩ := ask_ok he
    refine (cask_ok d bt bm ds w h.t h1 (by rw [hr.get]; exact h2)).mono ?_
    rintro e w' ⟨h3, h4, h5⟩
    exact ⟨h3, h.prog h4 h5, h5⟩
  · rw [if_neg he]
    by_cases hb : d.kind < 2 ∨ 4 < d.kind ∨ d.stream < 0 ∨ 255 < d.stream
    · have e1 : askErr d xs = 1 := by unfold askErr; rw [if_pos hb]
      rw [e1]
      refine (cask_bad d bt w hb).mono ?_
      rintro e w' ⟨h3, h5⟩
      exact ⟨h3, h.chain h5, Only.of_below h5⟩
    · have hs : ∃ d', getW d.key xs = some d' := by
        unfold askErr at he
        rw [if_neg hb] at he
        cases hg : getW d.key xs with
        | none => rw [hg] at he; simp at he
        | some d' => exact ⟨d', rfl⟩
      obtain ⟨d', hd'⟩ := hs
      have e1 : askErr d xs = 18 := by unfold askErr; rw [if_neg hb, hd']; rfl
      rw [e1]
      refine (cask_busy d d' bt bm ds w h.t (by omega) (by rw [hr.get]; exact hd')).mono ?_
      rintro e w' ⟨h3, h5⟩
      exact ⟨h3, h.chain h5, Only.of_below h5⟩
theorem p_take29 (s kd : Int) (h : U29 w0 bt bm xv xs ds w) (hr : CR ds xs) : Calls Try.prog 11 #[.pointer (some ⟨bt, 0, none⟩), .int .i64 s, .int .i64 kd] w fun e w' => e = .returned (.tuple #[(gotW (s, kd) xs).val, .bool (getW (s, kd) xs).isSome]) ∧ U29 w0 bt bm xv xs (dropW (s, kd) ds) w' ∧ Only [bm] w w' := by
  unfold gotW
  rw [← hr.get]
  cases hk : getW (s, kd) ds with
  | none =>
    refine (ctake_no s kd bt bm ds w h.t hk).mono ?_
    rintro e w' ⟨h3, h5⟩
    rw [dropW_self (getW_none.1 hk)]
    exact ⟨h3, h.chain h5, Only.of_below h5⟩
  | some d =>
    refine (ctake_yes s kd d bt bm ds w h.t hk).mono ?_
    rintro e w' ⟨h3, h4, h5⟩
    exact ⟨h3, h.prog h4 h5, h5⟩
/-- The document's Drop of one place. -/
theorem r_drop1 (s kd : Int) (hk : kd ≠ 0) (h : U29 w0 bt bm xv xs ds w) (hl : xs.length ≤ 900) : Calls Try.prog 12 #[xv, .int .i64 s, .int .i64 kd] w fun e w' => ∃ v1 v2, e = .returned (.tuple #[v1, v2]) ∧ U29 w0 bt bm v2 (dropW (s, kd) xs) ds w' ∧ Below w.heap.size w w' := by
  refine (rdrop29_any s kd (fun d => decide (d.key = (s, kd))) _ xv xs w h.s (by omega) (fun d => ?_)).mono ?_
  · simp only [decide_eq_true_eq]
    unfold Wt.key
    constructor
    · intro e
      exact ⟨congrArg Prod.fst e, .inr (congrArg Prod.snd e)⟩
    · rintro ⟨h1, h2⟩
      rw [h1, h2.resolve_left hk]
  · rintro e w' ⟨v1, v2, h3, h4, h5, h6⟩
    exact ⟨v1, v2, h3, h.fresh h6 h5, h6⟩
/-- The document's Drop of a stream. -/
theorem r_drop29 (s : Int) (h : U29 w0 bt bm xv xs ds w) (hl : xs.length ≤ 900) : Calls Try.prog 12 #[xv, .int .i64 s, .int .i64 0] w fun e w' => ∃ v1 v2, e = .returned (.tuple #[v1, v2]) ∧ Seg w' w.heap.size 30 5 v1 (xs.filter (strB s)).length (wtS (xs.filter (strB s))) ∧ U29 w0 bt bm v2 (xs.filter fun d => !strB s d) ds w' ∧ Below w.heap.size w w' := by
  refine (rdrop29_any s 0 (strB s) _ xv xs w h.s (by omega) (fun d => ?_)).mono ?_
  · simp [strB]
  · rintro e w' ⟨v1, v2, h3, h4, h5, h6⟩
    exact ⟨v1, v2, h3, h4, h.fresh h6 h5, h6⟩
theorem colW_gone (s : Int) (hr : CR ds xs) : colW s ds 3 = xs.filter (strB s) := by
  rw [← hr.gone s]
  simp [colW]
theorem p_drop29 (s : Int) {xs' : List Wt} (h : U29 w0 bt bm xv xs' ds w) (hr : CR ds xs) : Calls Try.prog 14 #[.pointer (some ⟨bt, 0, none⟩), .int .i64 s] w fun e w' => ∃ v, e = .returned v ∧ Seg w' w.heap.size 30 5 v (xs.filter (strB s)).length (wtS (xs.filter (strB s))) ∧ U29 w0 bt bm xv xs' (ds.filter fun d => !strB s d) w' ∧ Only [bm] w w' := by
  refine (cdrop_any s bt bm ds w h.t).mono ?_
  rintro e w' ⟨v, h3, h4, h5, h6⟩
  rw [colW_gone s hr] at h4
  have hd : drpW s ds 3 = ds.filter fun d => !strB s d := by
    rw [← drop3 hr.kinds]
    rfl
  rw [hd] at h5
  exact ⟨v, h3, h4, h.prog h5 h6, h6⟩
end
end Go.Proofs.Ytjfmjehacaemcaa
