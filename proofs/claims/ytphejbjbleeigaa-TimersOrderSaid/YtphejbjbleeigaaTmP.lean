/-
  Times by keys: the plain part (chapter 13): a list in the order in which it was laid beside a list in the order in which it is due.
-/
import Derived.Test.YtphejbjbleeigaaMp
namespace Go.Proofs.Ytphejbjbleeigaa
/-- A key's time. -/
structure Du where
  s : Int
  b : Int
  at_ : Int
  deriving DecidableEq
def Du.key (d : Du) : Int × Int := (d.s, d.b)
def Du.lt (x y : Du) : Prop := x.at_ < y.at_ ∨ x.at_ = y.at_ ∧ (x.s < y.s ∨ x.s = y.s ∧ x.b < y.b)
instance (x y : Du) : Decidable (Du.lt x y) := by unfold Du.lt; infer_instance
theorem Du.lt_irrefl (x : Du) : ¬ Du.lt x x := by unfold Du.lt; omega
theorem Du.lt_trans {x y z : Du} (h : Du.lt x y) (h' : Du.lt y z) : Du.lt x z := by unfold Du.lt at *; omega
theorem Du.lt_total {x y : Du} (h : x ≠ y) : Du.lt x y ∨ Du.lt y x := by
  unfold Du.lt
  rcases x with ⟨a, b, c⟩
  rcases y with ⟨d, e, f⟩
  by_cases h1 : c = f <;> by_cases h2 : a = d <;> by_cases h3 : b = e
  · subst h1; subst h2; subst h3; exact absurd rfl h
  all_goals (dsimp only; omega)
theorem sorted_unique {xs ys : List Du} (hp : xs.Perm ys) (hx : xs.Pairwise Du.lt) (hy : ys.Pairwise Du.lt) : xs = ys :=
  hp.eq_of_pairwise (fun _ _ _ _ h1 h2 => absurd (Du.lt_trans h1 h2) (Du.lt_irrefl _)) hx hy
def dropD (k : Int × Int) (ds : List Du) : List Du := ds.filter (fun d => !decide (d.key = k))
def setD (d : Du) : List Du → List Du
  | [] => [d]
  | x :: ds => if x.key = d.key then d :: ds else x :: setD d ds
def insD (d : Du) : List Du → List Du
  | [] => [d]
  | x :: ds => if Du.lt x d then x :: insD d ds else d :: x :: ds
def atD (k : Int × Int) : List Du → Option Int
  | [] => none
  | x :: ds => if x.key = k then some x.at_ else atD k ds
theorem dropD_cons_pos {k : Int × Int} {x : Du} {ds : List Du} (h : x.key = k) : dropD k (x :: ds) = dropD k ds := by simp [dropD, h]
theorem dropD_cons_neg {k : Int × Int} {x : Du} {ds : List Du} (h : ¬ x.key = k) : dropD k (x :: ds) = x :: dropD k ds := by simp [dropD, h]
theorem dropD_self {k : Int × Int} {ds : List Du} (h : ∀ d ∈ ds, d.key ≠ k) : dropD k ds = ds := List.filter_eq_self.2 (fun d hd => by simp [h d hd])
theorem setD_perm {d : Du} : ∀ {ds : List Du}, (ds.map Du.key).Nodup → (setD d ds).Perm (d :: dropD d.key ds)
  | [], _ => by simp [setD, dropD]
  | x :: ds, hn => by
    rw [List.map_cons, List.nodup_cons] at hn
    by_cases h : x.key = d.key
    · rw [dropD_cons_pos h, dropD_self (fun y hy e => hn.1 (by rw [h, ← e]; exact List.mem_map.2 ⟨y, hy, rfl⟩))]
      simp [setD, h]
    · rw [dropD_cons_neg h]
      simp only [setD, if_neg h]
      exact (List.Perm.cons x (setD_perm hn.2)).trans (List.Perm.swap _ _ _)
theorem insD_perm {d : Du} : ∀ {xs : List Du}, (insD d xs).Perm (d :: xs)
  | [] => by simp [insD]
  | x :: xs => by
    unfold insD
    split
    · exact (List.Perm.cons x insD_perm).trans (List.Perm.swap _ _ _)
    · exact List.Perm.refl _
theorem insD_sorted {d : Du} : ∀ {xs : List Du}, xs.Pairwise Du.lt → (∀ x ∈ xs, x ≠ d) → (insD d xs).Pairwise Du.lt
  | [], _, _ => by simp [insD]
  | x :: xs, h, hn => by
    obtain ⟨h1, h2⟩ := List.pairwise_cons.1 h
    unfold insD
    split
    · rename_i hl
      refine List.pairwise_cons.2 ⟨fun y hy => ?_, insD_sorted h2 (fun y hy => hn y (by simp [hy]))⟩
      rcases List.mem_cons.1 (insD_perm.mem_iff.1 hy) with rfl | hy
      · exact hl
      · exact h1 y hy
    · rename_i hl
      have hd : Du.lt d x := (Du.lt_total (hn x (by simp))).resolve_left hl
      refine List.pairwise_cons.2 ⟨fun y hy => ?_, h⟩
      rcases List.mem_cons.1 hy with rfl | hy
      · exact hd
      · exact Du.lt_trans hd (h1 y hy)
/-- The list ds of the program, in the order in which it was laid, and the document's list xs, in the order in which it is due. -/
structure TR (ds xs : List Du) : Prop where
  perm : ds.Perm xs
  sorted : xs.Pairwise Du.lt
  keys : (ds.map Du.key).Nodup
  good : ∀ d ∈ xs, 0 ≤ d.at_ ∧ d.at_ ≤ 1099511627776
theorem TR.nil : TR [] [] := ⟨List.Perm.nil, List.Pairwise.nil, by simp, by simp⟩
theorem TR.len {ds xs : List Du} (h : TR ds xs) : ds.length = xs.length := h.perm.length_eq
theorem setD_keys {d : Du} {ds : List Du} (hn : (ds.map Du.key).Nodup) : ((setD d ds).map Du.key).Nodup := by
  have hp := (setD_perm (d := d) hn).map Du.key
  rw [hp.nodup_iff, List.map_cons, List.nodup_cons]
  refine ⟨fun hm => ?_, List.Sublist.nodup ((List.filter_sublist).map _) hn⟩
  obtain ⟨x, hx, e⟩ := List.mem_map.1 hm
  have := (List.mem_filter.1 hx).2
  simp [e] at this
theorem TR.set {ds xs : List Du} (h : TR ds xs) (d : Du) (hd : 0 ≤ d.at_ ∧ d.at_ ≤ 1099511627776) : TR (setD d ds) (insD d (dropD d.key xs)) := by
  have h1 : (dropD d.key ds).Perm (dropD d.key xs) := h.perm.filter _
  refine ⟨(setD_perm h.keys).trans ((h1.cons d).trans insD_perm.symm), insD_sorted (h.sorted.filter _) (fun x hx e => ?_), setD_keys h.keys, fun x hx => ?_⟩
  · have := (List.mem_filter.1 hx).2
    simp [e] at this
  · rcases List.mem_cons.1 (insD_perm.mem_iff.1 hx) with rfl | hx
    · exact hd
    · exact h.good x (List.mem_filter.1 hx).1
theorem TR.filter {ds xs : List Du} (h : TR ds xs) (p : Du → Bool) : TR (ds.filter p) (xs.filter p) :=
  ⟨h.perm.filter p, h.sorted.filter p, List.Sublist.nodup ((List.filter_sublist).map _) h.keys, fun x hx => h.good x (List.mem_filter.1 hx).1⟩
theorem TR.drop {ds xs : List Du} (h : TR ds xs) (k : Int × Int) : TR (dropD k ds) (dropD k xs) := h.filter _
theorem atD_some {k : Int × Int} {z : Int} : ∀ {ds : List Du}, (ds.map Du.key).Nodup → (atD k ds = some z ↔ ⟨k.1, k.2, z⟩ ∈ ds)
  | [], _ => by simp [atD]
  | x :: ds, hn => by
    rw [List.map_cons, List.nodup_cons] at hn
    by_cases h : x.key = k
    · simp only [atD, if_pos h, Option.some.injEq, List.mem_cons]
      constructor
      · rintro rfl
        left
        rw [← h]
        rfl
      · rintro (e | e)
        · rw [← e]
        · exact absurd (List.mem_map.2 ⟨_, e, by rw [h]; rfl⟩) hn.1
    · simp only [atD, if_neg h, List.mem_cons]
      rw [atD_some hn.2]
      constructor
      · exact .inr
      · rintro (e | e)
        · exact absurd (by rw [← e]; rfl) h
        · exact e
theorem atD_perm {k : Int × Int} {ds xs : List Du} (hp : ds.Perm xs) (hn : (ds.map Du.key).Nodup) : atD k ds = atD k xs := by
  have hn' : (xs.map Du.key).Nodup := (hp.map Du.key).nodup_iff.1 hn
  apply Option.ext
  intro z
  rw [atD_some hn, atD_some hn', hp.mem_iff]
theorem TR.at {ds xs : List Du} (h : TR ds xs) (k : Int × Int) : atD k ds = atD k xs := atD_perm h.perm h.keys
theorem atD_none {k : Int × Int} : ∀ {ds : List Du}, atD k ds = none ↔ ∀ d ∈ ds, d.key ≠ k
  | [] => by simp [atD]
  | x :: ds => by
    by_cases h : x.key = k
    · simp [atD, h]
    · simp [atD, h, atD_none (ds := ds)]
/-- The least time. -/
def minD (m : Int) : List Du → Int
  | [] => m
  | d :: ds => minD (min m d.at_) ds
theorem minD_le {m : Int} : ∀ {ds : List Du}, minD m ds ≤ m
  | [] => by simp [minD]
  | d :: ds => by have := minD_le (m := min m d.at_) (ds := ds); simp only [minD]; omega
theorem minD_mem {m : Int} : ∀ {ds : List Du}, minD m ds = m ∨ ∃ d ∈ ds, minD m ds = d.at_
  | [] => .inl rfl
  | d :: ds => by
    simp only [minD]
    rcases minD_mem (m := min m d.at_) (ds := ds) with h | ⟨x, hx, h⟩
    · by_cases hm : m ≤ d.at_
      · left; rw [h]; omega
      · right; exact ⟨d, by simp, by rw [h]; omega⟩
    · exact .inr ⟨x, by simp [hx], h⟩
theorem minD_lb {m : Int} : ∀ {ds : List Du} {d : Du}, d ∈ ds → minD m ds ≤ d.at_
  | x :: ds, d, h => by
    simp only [minD]
    rcases List.mem_cons.1 h with rfl | h
    · have := minD_le (m := min m d.at_) (ds := ds); omega
    · exact minD_lb h
/-- Whatever is no greater than any, and one of them, is the first one's. -/
theorem TR.least {ds xs : List Du} {x : Du} (h : TR ds (x :: xs)) {m : Int} (hm : ∀ d ∈ ds, m ≤ d.at_) (hx : m = 1099511627776 ∨ ∃ d ∈ ds, m = d.at_) : m = x.at_ := by
  have h1 := hm x (h.perm.mem_iff.2 (by simp))
  have hs := (List.pairwise_cons.1 h.sorted).1
  rcases hx with rfl | ⟨d, hd, rfl⟩
  · have := h.good x (by simp); omega
  · rcases List.mem_cons.1 (h.perm.mem_iff.1 hd) with rfl | hd
    · rfl
    · have := hs d hd
      unfold Du.lt at this
      omega
/-! what is due -/
def dueB (now : Int) (d : Du) : Bool := decide (d.at_ ≤ now)
theorem takeWhile_sorted {now : Int} : ∀ {xs : List Du}, xs.Pairwise Du.lt → xs.takeWhile (dueB now) = xs.filter (dueB now)
  | [], _ => rfl
  | x :: xs, h => by
    obtain ⟨h1, h2⟩ := List.pairwise_cons.1 h
    by_cases hx : dueB now x
    · rw [List.takeWhile_cons_of_pos hx, List.filter_cons_of_pos hx, takeWhile_sorted h2]
    · rw [List.takeWhile_cons_of_neg hx, List.filter_cons_of_neg hx]
      symm
      rw [List.filter_eq_nil_iff]
      intro y hy
      have := h1 y hy
      unfold Du.lt at this
      unfold dueB at *
      simp at *
      omega
theorem dropWhile_sorted {now : Int} : ∀ {xs : List Du}, xs.Pairwise Du.lt → xs.dropWhile (dueB now) = xs.filter (fun d => !dueB now d)
  | [], _ => rfl
  | x :: xs, h => by
    obtain ⟨h1, h2⟩ := List.pairwise_cons.1 h
    by_cases hx : dueB now x
    · rw [List.dropWhile_cons_of_pos hx, List.filter_cons_of_neg (by simp [hx]), dropWhile_sorted h2]
    · rw [List.dropWhile_cons_of_neg hx]
      symm
      rw [List.filter_eq_self]
      intro y hy
      rcases List.mem_cons.1 hy with rfl | hy
      · simp [hx]
      · have := h1 y hy
        unfold Du.lt at this
        unfold dueB at *
        simp at *
        omega
/-- Sorted out of those that are due: the document's first ones. -/
theorem TR.due {ds xs out : List Du} (h : TR ds xs) {now : Int} (hp : out.Perm (ds.filter (dueB now))) (hs : out.Pairwise Du.lt) : out = xs.takeWhile (dueB now) := by
  rw [takeWhile_sorted h.sorted]
  exact sorted_unique (hp.trans (h.perm.filter _)) hs (h.sorted.filter _)
theorem TR.later {ds xs : List Du} (h : TR ds xs) (now : Int) : TR (ds.filter (fun d => !dueB now d)) (xs.dropWhile (dueB now)) := by
  rw [dropWhile_sorted h.sorted]
  exact h.filter _
/-- All that is due is deleted, key by key. -/
def dropAll : List Du → List Du → List Du
  | [], ds => ds
  | d :: out, ds => dropAll out (dropD d.key ds)
theorem dropAll_eq : ∀ {out ds : List Du}, dropAll out ds = ds.filter (fun d => !decide (d.key ∈ out.map Du.key))
  | [], ds => by simp only [dropAll, List.map_nil, List.not_mem_nil, decide_false, Bool.not_false]; exact (List.filter_eq_self.2 (fun _ _ => rfl)).symm
  | x :: out, ds => by
    simp only [dropAll]
    rw [dropAll_eq, dropD, List.filter_filter]
    refine List.filter_congr (fun d _ => ?_)
    by_cases h : d.key = x.key <;> simp [h]
theorem key_unique {ds : List Du} (hn : (ds.map Du.key).Nodup) {x y : Du} (hx : x ∈ ds) (hy : y ∈ ds) (h : x.key = y.key) : x = y := by
  have e1 := (atD_some (k := x.key) (z := x.at_) hn).2 hx
  have e2 := (atD_some (k := y.key) (z := y.at_) hn).2 hy
  rw [h, e2] at e1
  have e3 : y.at_ = x.at_ := by simpa using e1
  rcases x with ⟨a, b, c⟩
  rcases y with ⟨d, e, f⟩
  unfold Du.key at h
  simp at h e3
  simp [h, e3]
theorem dropAll_due {ds out : List Du} (hn : (ds.map Du.key).Nodup) {now : Int} (hp : out.Perm (ds.filter (dueB now))) : dropAll out ds = ds.filter (fun d => !dueB now d) := by
  rw [dropAll_eq]
  refine List.filter_congr (fun d hd => ?_)
  by_cases h : dueB now d
  · have : d.key ∈ out.map Du.key := List.mem_map.2 ⟨d, hp.mem_iff.2 (List.mem_filter.2 ⟨hd, h⟩), rfl⟩
    simp [this, h]
  · have : ¬ d.key ∈ out.map Du.key := fun hm => by
      obtain ⟨x, hx, e⟩ := List.mem_map.1 hm
      obtain ⟨hx1, hx2⟩ := List.mem_filter.1 (hp.mem_iff.1 hx)
      have := key_unique hn hx1 hd e
      subst this
      exact h hx2
    simp [this, h]
/-! as entries of the map -/
def Du.mp (d : Du) : (Int × Int) × Value := (d.key, .int .i64 d.at_)
theorem getM_mp {k : Int × Int} : ∀ {ds : List Du}, getM k (ds.map Du.mp) = (atD k ds).map (Value.int .i64)
  | [] => rfl
  | x :: ds => by
    by_cases h : x.key = k
    · simp [getM, atD, Du.mp, h]
    · simp [getM, atD, Du.mp, h]
      exact getM_mp
theorem putM_mp {d : Du} : ∀ {ds : List Du}, putM d.key (.int .i64 d.at_) (ds.map Du.mp) = (setD d ds).map Du.mp
  | [] => rfl
  | x :: ds => by
    by_cases h : x.key = d.key
    · simp [putM, setD, Du.mp, h]
    · have ih := putM_mp (d := d) (ds := ds)
      simp [putM, setD, Du.mp, h] at ih ⊢
      exact ih
theorem delM_mp {k : Int × Int} {ds : List Du} : delM k (ds.map Du.mp) = (dropD k ds).map Du.mp := by
  unfold delM dropD
  rw [List.filter_map]
  rfl
theorem keys_mp {ds : List Du} : (ds.map Du.mp).map Prod.fst = ds.map Du.key := by simp [Du.mp, Function.comp_def]
end Go.Proofs.Ytphejbjbleeigaa
