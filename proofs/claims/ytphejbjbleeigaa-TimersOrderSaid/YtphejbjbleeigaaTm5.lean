/-
  Timers: the sort of what is due (chapter 13).
-/
import Derived.Test.YtphejbjbleeigaaTm4
import Derived.Test.YtphejbjbleeigaaSrtK
import Derived.Shelf.SlSortCmp.NoneTotal
namespace Go.Proofs.Ytphejbjbleeigaa
open Go Go.RowKit
open Go.Shelf Go.Sort
set_option linter.unusedVariables false
set_option maxRecDepth 100000
set_option maxHeartbeats 2000000
instance : Inhabited Du := ⟨⟨0, 0, 0⟩⟩
theorem duC_len (d : Du) : (duC d).length = 3 := rfl
theorem ordD_b (x y : Du) : ltOf ordD x y = decide (Du.lt x y) := by
  unfold ltOf
  by_cases h : Du.lt x y
  · simp [h, (ordD_lt x y).2 h]
  · simp [h]
    have := mt (ordD_lt x y).1 h
    omega
theorem swoD : SWO (ltOf ordD) where
  irrefl x := by rw [ordD_b]; simp [Du.lt_irrefl]
  trans x y z h1 h2 := by
    rw [ordD_b] at *
    simp at *
    exact Du.lt_trans h1 h2
  ntrans x y z h1 h2 := by
    rw [ordD_b] at *
    simp only [decide_eq_false_iff_not] at *
    unfold Du.lt at *
    omega
def duS (ds : List Du) : List Value := ds.flatMap duC
/-- Sorted, as a list. -/
theorem sorted_list {xs ys : List Du} (hp : PermIn 0 xs.toArray.size xs.toArray ys.toArray) (hs : SortedIn (ltOf ordD) 0 xs.toArray.size ys.toArray) (hn : (xs.map Du.key).Nodup) : ys.Perm xs ∧ ys.Pairwise Du.lt := by
  have h1 : ys.length = xs.length := by simpa using hp.1
  have hp' : ys.Perm xs := by
    have := hp.2.2
    simpa [h1, List.take_of_length_le] using this
  refine ⟨hp', ?_⟩
  rw [List.pairwise_iff_getElem]
  intro i j hi hj hij
  have := hs i j (Nat.zero_le _) hij (by simpa using (h1 ▸ hj))
  rw [ordD_b] at this
  simp only [List.getElem!_toArray, decide_eq_false_iff_not] at this
  rw [List.getElem!_eq_getElem?_getD, List.getElem!_eq_getElem?_getD, List.getElem?_eq_getElem hi, List.getElem?_eq_getElem hj] at this
  simp only [Option.getD_some] at this
  have hne : ys[i] ≠ ys[j] := by
    have hn' : (ys.map Du.key).Nodup := (hp'.map Du.key).nodup_iff.2 hn
    intro e
    have := (List.pairwise_iff_getElem.1 hn') i j (by simpa using hi) (by simpa using hj) hij
    simp only [List.getElem_map] at this
    exact this (by rw [e])
  exact (Du.lt_total hne).resolve_right this
/-- The sort's answer. -/
def SortPost (base : Nat) (v : Value) (xs : List Du) (w : World) (e : Ending) (w' : World) : Prop :=
  e = .returned (.tuple #[]) ∧ ∃ ys : List Du, ys.Perm xs ∧ ys.Pairwise Du.lt ∧ Seg w' base 96 3 v xs.length (duS ys) ∧ Only v.ownBlock.toList w w'
theorem sort_due (base : Nat) (v : Value) (xs : List Du) (w : World) (hs : Seg w base 96 3 v xs.length (duS xs)) (hn : (xs.map Du.key).Nodup) (hlen : xs.length ≤ 1000) :
    Calls Try.prog 93 #[v, .func (.func 94) #[] #[]] w (SortPost base v xs w) := by
  by_cases h0 : xs = []
  · subst h0
    obtain ⟨a, cap, rfl⟩ := hs.form
    have := AnyF.slices_SortFunc_none Try.sortDue a cap (.func (.func 94) #[] #[]) w
    change Calls Try.prog 93 _ _ _ at this
    refine this.mono ?_
    rintro e w' ⟨rfl, rfl⟩
    exact ⟨rfl, [], List.Perm.refl _, List.Pairwise.nil, hs, Only.refl _ _⟩
  · have hpos : 0 < xs.length := List.length_pos_iff.2 h0
    obtain ⟨g, off, cap, rfl, hg, hgl, hcap, hm⟩ := hs.shape hpos
    have hmx : xs.length < 4611686018427387904 := by omega
    have eg : ∀ args w, (callFunc 94 args).run Try.prog w = .ok (.enter 94 args) w := enters_of Try.func94 (by kernel_rfl) rfl
    have := AnyQ.slices_SortFunc Try.sortDue 3 Try.isAgg96 Try.sizeOf96 duC duC_len (fun x v hv => by simp [duC] at hv; rcases hv with rfl | rfl | rfl <;> rfl) ordD swoD 94 #[] g off cap xs.toArray w eg (fun _ _ _ _ x y => order_any x y _) (hs.holdsK duC_len) hgl (by simpa using hmx)
    change Calls Try.prog 93 _ _ _ at this
    refine this.mono ?_
    rintro e w' ⟨rfl, d', n, os, hp, hso, rfl⟩
    obtain ⟨ys, rfl⟩ : ∃ ys : List Du, d' = ys.toArray := ⟨d'.toList, by simp⟩
    have hl : ys.length = xs.length := by simpa using hp.1
    obtain ⟨h1, h2⟩ := sorted_list hp hso hn
    obtain ⟨h3, h4⟩ := hs.sortedK duC_len hl (m := n) (os := os)
    exact ⟨rfl, ys, h1, h2, h3, h4⟩
end Go.Proofs.Ytphejbjbleeigaa
