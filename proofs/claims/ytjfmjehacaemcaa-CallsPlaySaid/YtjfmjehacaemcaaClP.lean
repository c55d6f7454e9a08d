/-
  Calls that wait: the plain part (chapter 29): a list in the order in which it was laid beside one by streams and kinds.
-/
import Derived.Test.YtjfmjehacaemcaaMp
namespace Go.Proofs.Ytjfmjehacaemcaa
structure Wt where
  id : Int
  kind : Int
  stream : Int
  n : Int
  body : List UInt8
  deriving DecidableEq
def Wt.key (d : Wt) : Int × Int := (d.stream, d.kind)
def Wt.lt (x y : Wt) : Prop := x.stream < y.stream ∨ x.stream = y.stream ∧ x.kind < y.kind
instance (x y : Wt) : Decidable (Wt.lt x y) := by unfold Wt.lt; infer_instance
theorem Wt.lt_irrefl (x : Wt) : ¬ Wt.lt x x := by unfold Wt.lt; omega
theorem Wt.lt_trans {x y z : Wt} (h : Wt.lt x y) (h' : Wt.lt y z) : Wt.lt x z := by unfold Wt.lt at *; omega
theorem Wt.lt_total {x y : Wt} (h : x.key ≠ y.key) : Wt.lt x y ∨ Wt.lt y x := by
  unfold Wt.lt
  unfold Wt.key at h
  by_cases h1 : x.stream = y.stream <;> by_cases h2 : x.kind = y.kind
  · exact absurd (by rw [h1, h2]) h
  all_goals omega
theorem Wt.lt_key {x y : Wt} (h : Wt.lt x y) : x.key ≠ y.key := by
  intro e
  unfold Wt.key at e
  unfold Wt.lt at h
  have h1 := congrArg Prod.fst e
  have h2 := congrArg Prod.snd e
  dsimp only at h1 h2
  omega
theorem wsorted_unique {xs ys : List Wt} (hp : xs.Perm ys) (hx : xs.Pairwise Wt.lt) (hy : ys.Pairwise Wt.lt) : xs = ys :=
  hp.eq_of_pairwise (fun _ _ _ _ h1 h2 => absurd (Wt.lt_trans h1 h2) (Wt.lt_irrefl _)) hx hy
def dropW (k : Int × Int) (ds : List Wt) : List Wt := ds.filter (fun d => !decide (d.key = k))
def insW (d : Wt) : List Wt → List Wt
  | [] => [d]
  | x :: ds => if Wt.lt x d then x :: insW d ds else d :: x :: ds
def getW (k : Int × Int) : List Wt → Option Wt
  | [] => none
  | x :: ds => if x.key = k then some x else getW k ds
theorem dropW_cons_pos {k : Int × Int} {x : Wt} {ds : List Wt} (h : x.key = k) : dropW k (x :: ds) = dropW k ds := by simp [dropW, h]
theorem dropW_cons_neg {k : Int × Int} {x : Wt} {ds : List Wt} (h : ¬ x.key = k) : dropW k (x :: ds) = x :: dropW k ds := by simp [dropW, h]
theorem dropW_self {k : Int × Int} {ds : List Wt} (h : ∀ d ∈ ds, d.key ≠ k) : dropW k ds = ds := List.filter_eq_self.2 (fun d hd => by simp [h d hd])
theorem dropW_le (k : Int × Int) (xs : List Wt) : (dropW k xs).length ≤ xs.length := List.length_filter_le _ _
theorem insW_perm {d : Wt} : ∀ {xs : List Wt}, (insW d xs).Perm (d :: xs)
  | [] => by simp [insW]
  | x :: xs => by
    unfold insW
    split
    · exact (List.Perm.cons x insW_perm).trans (List.Perm.swap _ _ _)
    · exact List.Perm.refl _
theorem insW_sorted {d : Wt} : ∀ {xs : List Wt}, xs.Pairwise Wt.lt → (∀ x ∈ xs, x.key ≠ d.key) → (insW d xs).Pairwise Wt.lt
  | [], _, _ => by simp [insW]
  | x :: xs, h, hn => by
    obtain ⟨h1, h2⟩ := List.pairwise_cons.1 h
    unfold insW
    split
    · rename_i hl
      refine List.pairwise_cons.2 ⟨fun y hy => ?_, insW_sorted h2 (fun y hy => hn y (by simp [hy]))⟩
      rcases List.mem_cons.1 (insW_perm.mem_iff.1 hy) with rfl | hy
      · exact hl
      · exact h1 y hy
    · rename_i hl
      have hd : Wt.lt d x := (Wt.lt_total (hn x (by simp))).resolve_left hl
      refine List.pairwise_cons.2 ⟨fun y hy => ?_, h⟩
      rcases List.mem_cons.1 hy with rfl | hy
      · exact hd
      · exact Wt.lt_trans hd (h1 y hy)
/-- Where it is put. -/
theorem insW_at {d : Wt} : ∀ {xs : List Wt} {i : Nat}, i ≤ xs.length → (∀ x ∈ xs.take i, Wt.lt x d) → (∀ h : i < xs.length, ¬ Wt.lt xs[i] d) → insW d xs = xs.take i ++ [d] ++ xs.drop i
  | [], i, _, _, _ => by simp [insW]
  | x :: xs, 0, _, _, h => by
    have hx : ¬ Wt.lt x d := h (by simp)
    simp [insW, hx]
  | x :: xs, i + 1, hi, h1, h2 => by
    have hx : Wt.lt x d := h1 x (by simp)
    have ih := insW_at (d := d) (xs := xs) (i := i) (by simpa using hi) (fun y hy => h1 y (by simp [hy])) (fun h => by
      have := h2 (by simpa using h)
      simpa using this)
    simp [insW, hx, ih]
theorem getW_none {k : Int × Int} : ∀ {ds : List Wt}, getW k ds = none ↔ ∀ d ∈ ds, d.key ≠ k
  | [] => by simp [getW]
  | x :: ds => by
    by_cases h : x.key = k
    · simp [getW, h]
    · simp [getW, h, getW_none (ds := ds)]
theorem getW_some {k : Int × Int} {z : Wt} : ∀ {ds : List Wt}, (ds.map Wt.key).Nodup → (getW k ds = some z ↔ z ∈ ds ∧ z.key = k)
  | [], _ => by simp [getW]
  | x :: ds, hn => by
    rw [List.map_cons, List.nodup_cons] at hn
    by_cases h : x.key = k
    · simp only [getW, if_pos h, Option.some.injEq, List.mem_cons]
      constructor
      · rintro rfl
        exact ⟨.inl rfl, h⟩
      · rintro ⟨e | e, hk⟩
        · exact e.symm
        · exact absurd (List.mem_map.2 ⟨z, e, by rw [h, hk]⟩) hn.1
    · simp only [getW, if_neg h, List.mem_cons]
      rw [getW_some hn.2]
      constructor
      · exact fun e => ⟨.inr e.1, e.2⟩
      · rintro ⟨e | e, hk⟩
        · exact absurd (by rw [← e, hk]) h
        · exact ⟨e, hk⟩
theorem getW_perm {k : Int × Int} {ds xs : List Wt} (hp : ds.Perm xs) (hn : (ds.map Wt.key).Nodup) : getW k ds = getW k xs := by
  have hn' : (xs.map Wt.key).Nodup := (hp.map Wt.key).nodup_iff.1 hn
  apply Option.ext
  intro z
  rw [getW_some hn, getW_some hn', hp.mem_iff]
theorem getW_first {k : Int × Int} : ∀ {xs : List Wt} {j : Nat} (hj : j < xs.length), (∀ x ∈ xs.take j, x.key ≠ k) → xs[j].key = k → getW k xs = some xs[j]
  | x :: xs, 0, _, _, h => by simp only [List.getElem_cons_zero] at h ⊢; simp [getW, h]
  | x :: xs, j + 1, hj, h, h' => by
    have hx : ¬ x.key = k := h x (by simp)
    simp only [List.getElem_cons_succ] at h' ⊢
    simp only [getW, if_neg hx]
    exact getW_first (by simpa using hj) (fun y hy => h y (by simp [hy])) h'
/-- The list ds of the program, in the order in which it was laid, and the document's list xs. -/
structure CR (ds xs : List Wt) : Prop where
  perm : ds.Perm xs
  sorted : xs.Pairwise Wt.lt
  keys : (ds.map Wt.key).Nodup
  kinds : ∀ d ∈ ds, 2 ≤ d.kind ∧ d.kind ≤ 4
theorem CR.nil : CR [] [] := ⟨List.Perm.nil, List.Pairwise.nil, by simp, by simp⟩
theorem CR.len {ds xs : List Wt} (h : CR ds xs) : ds.length = xs.length := h.perm.length_eq
theorem CR.get {ds xs : List Wt} (h : CR ds xs) (k : Int × Int) : getW k ds = getW k xs := getW_perm h.perm h.keys
theorem CR.filter {ds xs : List Wt} (h : CR ds xs) (p : Wt → Bool) : CR (ds.filter p) (xs.filter p) :=
  ⟨h.perm.filter p, h.sorted.filter p, List.Sublist.nodup ((List.filter_sublist).map _) h.keys, fun x hx => h.kinds x (List.mem_filter.1 hx).1⟩
theorem CR.ask {ds xs : List Wt} (h : CR ds xs) (d : Wt) (hd : getW d.key ds = none) (hk : 2 ≤ d.kind ∧ d.kind ≤ 4) : CR (ds ++ [d]) (insW d xs) := by
  have hn := getW_none.1 hd
  refine ⟨(List.perm_append_singleton d ds).trans ((h.perm.cons d).trans insW_perm.symm), insW_sorted h.sorted (fun x hx => hn x (h.perm.mem_iff.2 hx)), ?_, fun x hx => ?_⟩
  · rw [List.map_append, List.map_singleton, List.nodup_append]
    refine ⟨h.keys, by simp, fun a ha b hb => ?_⟩
    rw [List.mem_singleton] at hb
    subst hb
    obtain ⟨x, hx, rfl⟩ := List.mem_map.1 ha
    exact hn x hx
  · rcases List.mem_append.1 hx with hx | hx
    · exact h.kinds x hx
    · rw [List.mem_singleton.1 hx]; exact hk
/-- Sorted: the document's list. -/
theorem CR.all {ds xs ys : List Wt} (h : CR ds xs) (hp : ys.Perm ds) (hs : ys.Pairwise Wt.lt) : ys = xs := wsorted_unique (hp.trans h.perm) hs h.sorted
/-! all of a stream -/
def strB (s : Int) (d : Wt) : Bool := decide (d.stream = s)
theorem drop3 {s : Int} {ds : List Wt} (hk : ∀ d ∈ ds, 2 ≤ d.kind ∧ d.kind ≤ 4) : dropW (s, 4) (dropW (s, 3) (dropW (s, 2) ds)) = ds.filter (fun d => !strB s d) := by
  unfold dropW
  rw [List.filter_filter, List.filter_filter]
  refine List.filter_congr (fun d hd => ?_)
  have := hk d hd
  unfold strB Wt.key
  by_cases h : d.stream = s
  · have h2 : d.kind = 2 ∨ d.kind = 3 ∨ d.kind = 4 := by omega
    rcases h2 with h2 | h2 | h2 <;> simp [h, h2]
  · simp [h]
theorem filter_key {k : Int × Int} : ∀ {ds : List Wt}, (ds.map Wt.key).Nodup → ds.filter (fun d => decide (d.key = k)) = (getW k ds).toList
  | [], _ => by simp [getW]
  | x :: ds, hn => by
    rw [List.map_cons, List.nodup_cons] at hn
    by_cases h : x.key = k
    · rw [List.filter_cons_of_pos (by simp [h])]
      have : ds.filter (fun d => decide (d.key = k)) = [] := by
        rw [List.filter_eq_nil_iff]
        intro y hy
        simp only [decide_eq_true_eq]
        exact fun e => hn.1 (List.mem_map.2 ⟨y, hy, by rw [e, h]⟩)
      rw [this]
      simp [getW, h]
    · rw [List.filter_cons_of_neg (by simp [h]), filter_key hn.2]
      simp [getW, h]
theorem stream_perm {s : Int} : ∀ {ds : List Wt}, (∀ d ∈ ds, 2 ≤ d.kind ∧ d.kind ≤ 4) →
    (ds.filter (fun d => decide (d.key = (s, 2))) ++ (ds.filter (fun d => decide (d.key = (s, 3))) ++ ds.filter (fun d => decide (d.key = (s, 4))))).Perm (ds.filter (strB s))
  | [], _ => by simp
  | x :: ds, hk => by
    have ih := stream_perm (s := s) (ds := ds) (fun d hd => hk d (by simp [hd]))
    have hx := hk x (by simp)
    by_cases h : x.stream = s
    · have h2 : x.kind = 2 ∨ x.kind = 3 ∨ x.kind = 4 := by omega
      rw [List.filter_cons_of_pos (p := strB s) (by simp [strB, h])]
      rcases h2 with h2 | h2 | h2
      · rw [List.filter_cons_of_pos (by simp [Wt.key, h, h2]), List.filter_cons_of_neg (by simp [Wt.key, h, h2]), List.filter_cons_of_neg (by simp [Wt.key, h, h2])]
        exact ih.cons x
      · rw [List.filter_cons_of_neg (by simp [Wt.key, h, h2]), List.filter_cons_of_pos (by simp [Wt.key, h, h2]), List.filter_cons_of_neg (by simp [Wt.key, h, h2])]
        exact (List.perm_middle).trans (ih.cons x)
      · rw [List.filter_cons_of_neg (by simp [Wt.key, h, h2]), List.filter_cons_of_neg (by simp [Wt.key, h, h2]), List.filter_cons_of_pos (by simp [Wt.key, h, h2]), ← List.append_assoc]
        rw [← List.append_assoc] at ih
        exact (List.perm_middle).trans (ih.cons x)
    · rw [List.filter_cons_of_neg (p := strB s) (by simp [strB, h]), List.filter_cons_of_neg (by simp [Wt.key, h]), List.filter_cons_of_neg (by simp [Wt.key, h]), List.filter_cons_of_neg (by simp [Wt.key, h])]
      exact ih
theorem gone_sorted {s : Int} {ds : List Wt} (hn : (ds.map Wt.key).Nodup) : ((getW (s, 2) ds).toList ++ ((getW (s, 3) ds).toList ++ (getW (s, 4) ds).toList)).Pairwise Wt.lt := by
  have hk : ∀ (j : Int) (x : Wt), x ∈ (getW (s, j) ds).toList → x.stream = s ∧ x.kind = j := fun j x hx => by
    have : getW (s, j) ds = some x := by simpa using hx
    have := ((getW_some hn).1 this).2
    unfold Wt.key at this
    exact ⟨congrArg Prod.fst this, congrArg Prod.snd this⟩
  have hone : ∀ o : Option Wt, o.toList.Pairwise Wt.lt := fun o => by cases o <;> simp
  rw [List.pairwise_append, List.pairwise_append]
  refine ⟨hone _, ⟨hone _, hone _, fun a ha b hb => ?_⟩, fun a ha b hb => ?_⟩
  · have h1 := hk 3 a ha
    have h2 := hk 4 b hb
    unfold Wt.lt
    omega
  · have h1 := hk 2 a ha
    unfold Wt.lt
    rcases List.mem_append.1 hb with hb | hb
    · have h2 := hk 3 b hb
      omega
    · have h2 := hk 4 b hb
      omega
/-- What is taken of a stream, kind by kind: the document's. -/
theorem CR.gone {ds xs : List Wt} (h : CR ds xs) (s : Int) : (getW (s, 2) ds).toList ++ ((getW (s, 3) ds).toList ++ (getW (s, 4) ds).toList) = xs.filter (strB s) := by
  refine wsorted_unique ?_ (gone_sorted h.keys) (h.sorted.filter _)
  have h1 := stream_perm (s := s) h.kinds
  rw [filter_key h.keys, filter_key h.keys, filter_key h.keys] at h1
  exact h1.trans (h.perm.filter _)
/-! as entries of the map -/
def Wt.val (d : Wt) : Value := .agg #[.int .i64 d.id, .int .i64 d.kind, .int .i64 d.stream, .int .i64 d.n, Str d.body]
def Wt.mp (d : Wt) : (Int × Int) × Value := (d.key, d.val)
theorem getM_wp {k : Int × Int} : ∀ {ds : List Wt}, getM k (ds.map Wt.mp) = (getW k ds).map Wt.val
  | [] => rfl
  | x :: ds => by
    by_cases h : x.key = k
    · simp [getM, getW, Wt.mp, h]
    · simp [getM, getW, Wt.mp, h]
      exact getM_wp
theorem putM_wp {d : Wt} {ds : List Wt} (h : getW d.key ds = none) : putM d.key d.val (ds.map Wt.mp) = (ds ++ [d]).map Wt.mp := by
  rw [putM_new (fun p hp => by
    obtain ⟨x, hx, rfl⟩ := List.mem_map.1 hp
    exact getW_none.1 h x hx)]
  simp [Wt.mp]
theorem delM_wp {k : Int × Int} {ds : List Wt} : delM k (ds.map Wt.mp) = (dropW k ds).map Wt.mp := by
  unfold delM dropW
  rw [List.filter_map]
  rfl
theorem keys_wp {ds : List Wt} : (ds.map Wt.mp).map Prod.fst = ds.map Wt.key := by simp [Wt.mp, Function.comp_def]
end Go.Proofs.Ytjfmjehacaemcaa
