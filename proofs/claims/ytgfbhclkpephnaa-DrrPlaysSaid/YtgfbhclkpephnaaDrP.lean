/-
  Whose turn it is: queues by lists alone (chapter 17).
-/
import Derived.Test.YtgfbhclkpephnaaSeg
namespace Go.Proofs.Ytgfbhclkpephnaa
open Go Go.RowKit
set_option linter.unusedVariables false
/-- A queue. -/
structure PQ where
  id : Int
  weight : Int
  deficit : Int
  served : Bool
  items : List (Int × Int)
/-- All queues, and the round. -/
structure PS where
  quantum : Int
  qs : List PQ
  round : List Int
def getQ (id : Int) : List PQ → Option PQ
  | [] => none
  | q :: l => if q.id = id then some q else getQ id l
def putQ (q : PQ) (l : List PQ) : List PQ := l.map fun f => if f.id = q.id then q else f
def sumQ (f : PQ → Nat) : List PQ → Nat
  | [] => 0
  | q :: l => f q + sumQ f l
def totQ (l : List PQ) : Nat := sumQ (fun q => q.items.length) l
theorem getQ_mem {id : Int} {q : PQ} : ∀ {l : List PQ}, getQ id l = some q → q ∈ l ∧ q.id = id
  | [], h => by cases h
  | p :: l, h => by
    unfold getQ at h
    by_cases hp : p.id = id
    · rw [if_pos hp] at h
      cases h
      exact ⟨List.mem_cons_self, hp⟩
    · rw [if_neg hp] at h
      obtain ⟨h1, h2⟩ := getQ_mem h
      exact ⟨List.mem_cons_of_mem _ h1, h2⟩
theorem getQ_none {id : Int} : ∀ {l : List PQ}, getQ id l = none ↔ ∀ q ∈ l, q.id ≠ id
  | [] => by simp [getQ]
  | p :: l => by
    unfold getQ
    by_cases hp : p.id = id
    · rw [if_pos hp]
      simp [hp]
    · rw [if_neg hp, getQ_none]
      simp [hp]
theorem getQ_of {q : PQ} : ∀ {l : List PQ}, (l.map PQ.id).Nodup → q ∈ l → getQ q.id l = some q
  | [], _, h => by cases h
  | p :: l, hn, h => by
    rw [List.map_cons, List.nodup_cons] at hn
    unfold getQ
    rcases List.mem_cons.1 h with rfl | h
    · rw [if_pos rfl]
    · rw [if_neg (fun e : p.id = q.id => hn.1 (by rw [e]; exact List.mem_map_of_mem h)), getQ_of hn.2 h]
theorem putQ_ids (q : PQ) (l : List PQ) : (putQ q l).map PQ.id = l.map PQ.id := by
  unfold putQ
  rw [List.map_map]
  refine List.map_congr_left fun f _ => ?_
  simp only [Function.comp_apply]
  split
  · rename_i h; exact h.symm
  · rfl
theorem getQ_putQ {q q0 : PQ} {id : Int} : ∀ {l : List PQ}, getQ q.id l = some q0 → getQ id (putQ q l) = if id = q.id then some q else getQ id l
  | [], h => by cases h
  | p :: l, h => by
    unfold getQ at h
    show getQ id ((if p.id = q.id then q else p) :: putQ q l) = _
    by_cases hp : p.id = q.id
    · rw [if_pos hp]
      unfold getQ
      by_cases he : id = q.id
      · rw [if_pos he.symm, if_pos he]
      · rw [if_neg (fun e => he e.symm), if_neg he, if_neg (fun e => he (by rw [← e, hp]))]
        have : ∀ m : List PQ, getQ id (putQ q m) = getQ id m := by
          intro m
          induction m with
          | nil => rfl
          | cons a m ih =>
            show getQ id ((if a.id = q.id then q else a) :: putQ q m) = getQ id (a :: m)
            unfold getQ
            by_cases ha : a.id = q.id
            · rw [if_pos ha, if_neg (fun e => he e.symm), if_neg (fun e => he (by rw [← e, ha])), ih]
            · rw [if_neg ha, ih]
        exact this l
    · rw [if_neg hp] at h ⊢
      unfold getQ
      by_cases he : p.id = id
      · rw [if_pos he, if_neg (fun e => hp (he.trans e)), if_pos he]
      · rw [if_neg he, getQ_putQ h, if_neg he]
theorem putQ_mem {q f : PQ} {l : List PQ} (h : f ∈ putQ q l) : (f = q ∧ ∃ g ∈ l, g.id = q.id) ∨ (f ∈ l ∧ f.id ≠ q.id) := by
  obtain ⟨g, hg, rfl⟩ := List.mem_map.1 h
  by_cases hi : g.id = q.id
  · rw [if_pos hi]
    exact .inl ⟨rfl, g, hg, hi⟩
  · rw [if_neg hi]
    exact .inr ⟨hg, hi⟩
theorem putQ_none {q : PQ} : ∀ {l : List PQ}, (∀ f ∈ l, f.id ≠ q.id) → putQ q l = l
  | [], _ => rfl
  | p :: l, h => by
    show (if p.id = q.id then q else p) :: putQ q l = _
    rw [if_neg (h p List.mem_cons_self), putQ_none (fun f hf => h f (List.mem_cons_of_mem _ hf))]
theorem sumQ_putQ (f : PQ → Nat) {q q0 : PQ} : ∀ {l : List PQ}, (l.map PQ.id).Nodup → getQ q.id l = some q0 → sumQ f (putQ q l) + f q0 = sumQ f l + f q
  | [], _, h => by cases h
  | p :: l, hn, h => by
    rw [List.map_cons, List.nodup_cons] at hn
    unfold getQ at h
    show sumQ f ((if p.id = q.id then q else p) :: putQ q l) + f q0 = sumQ f (p :: l) + f q
    by_cases hp : p.id = q.id
    · rw [if_pos hp] at h ⊢
      cases h
      rw [putQ_none (fun g hg e => hn.1 (by rw [hp, ← e]; exact List.mem_map_of_mem hg))]
      unfold sumQ
      omega
    · rw [if_neg hp] at h ⊢
      have := sumQ_putQ f hn.2 h
      unfold sumQ
      omega
theorem sumQ_le (f : PQ → Nat) {q : PQ} : ∀ {l : List PQ}, q ∈ l → f q ≤ sumQ f l
  | [], h => by cases h
  | p :: l, h => by
    unfold sumQ
    rcases List.mem_cons.1 h with rfl | h
    · omega
    · have := sumQ_le f h; omega
theorem sumQ_app (f : PQ → Nat) : ∀ {l m : List PQ}, sumQ f (l ++ m) = sumQ f l + sumQ f m
  | [], m => by simp [sumQ]
  | p :: l, m => by
    rw [List.cons_append]
    show f p + sumQ f (l ++ m) = f p + sumQ f l + sumQ f m
    rw [sumQ_app f]
    omega
/-- All that always holds. -/
structure PQ.Ok (q : PQ) : Prop where
  id : 0 ≤ q.id ∧ q.id ≤ 255
  wt : 1 ≤ q.weight ∧ q.weight ≤ 255
  it : ∀ x ∈ q.items, x.1 = q.id ∧ 1 ≤ x.2 ∧ x.2 ≤ 65536
  df : 0 ≤ q.deficit ∧ q.deficit ≤ 16777215
  sv : q.served = false → q.deficit ≤ 65535
structure PS.Ok (S : PS) : Prop where
  qm : 1 ≤ S.quantum ∧ S.quantum ≤ 65536
  nd : (S.qs.map PQ.id).Nodup
  q : ∀ q ∈ S.qs, q.Ok
  rn : S.round.Nodup
  rm : ∀ id, id ∈ S.round ↔ ∃ q, getQ id S.qs = some q ∧ q.items ≠ []
def newP (quantum : Int) : PS := ⟨quantum, [], []⟩
theorem newP_ok {z : Int} (h : 1 ≤ z ∧ z ≤ 65536) : (newP z).Ok := ⟨h, by simp [newP], by simp [newP], by simp [newP], by simp [newP, getQ]⟩
def addP (S : PS) (id w : Int) : PS := { S with qs := S.qs ++ [⟨id, w, 0, false, []⟩] }
def addE (S : PS) (id w : Int) : Int := if id < 0 ∨ 255 < id ∨ w < 1 ∨ 255 < w then 2 else if (getQ id S.qs).isSome then 8 else 0
theorem getQ_app (id : Int) : ∀ {l m : List PQ}, getQ id (l ++ m) = match getQ id l with | some q => some q | none => getQ id m
  | [], m => rfl
  | p :: l, m => by
    rw [List.cons_append]
    show (if p.id = id then some p else getQ id (l ++ m)) = match (if p.id = id then some p else getQ id l) with | some q => some q | none => getQ id m
    by_cases h : p.id = id
    · rw [if_pos h, if_pos h]
    · rw [if_neg h, if_neg h, getQ_app id]
theorem addP_ok {S : PS} {id w : Int} (h : S.Ok) (he : addE S id w = 0) : (addP S id w).Ok := by
  unfold addE at he
  by_cases h1 : id < 0 ∨ 255 < id ∨ w < 1 ∨ 255 < w
  · rw [if_pos h1] at he; cases he
  rw [if_neg h1] at he
  have hg : getQ id S.qs = none := by
    cases hg : getQ id S.qs with
    | none => rfl
    | some q => rw [hg] at he; cases he
  have hn := getQ_none.1 hg
  refine ⟨h.qm, ?_, fun q hq => ?_, h.rn, fun i => ?_⟩
  · show ((S.qs ++ [_]).map PQ.id).Nodup
    rw [List.map_append, List.nodup_append]
    refine ⟨h.nd, by simp, fun a ha b hb => ?_⟩
    obtain ⟨q, hq, rfl⟩ := List.mem_map.1 ha
    simp at hb
    rw [hb]
    exact hn q hq
  · rcases List.mem_append.1 hq with hq | hq
    · exact h.q q hq
    · obtain rfl := List.mem_singleton.1 hq
      exact ⟨by simp only; omega, by simp only; omega, by simp, by simp, by simp⟩
  · show i ∈ S.round ↔ _
    rw [h.rm i]
    show _ ↔ ∃ q, getQ i (S.qs ++ [_]) = some q ∧ q.items ≠ []
    rw [getQ_app]
    cases hi : getQ i S.qs with
    | some q => simp
    | none =>
      simp only [getQ]
      constructor
      · rintro ⟨q, hq, _⟩
        cases hq
      · rintro ⟨q, hq, hne⟩
        split at hq
        · cases hq
          exact absurd rfl hne
        · cases hq
def pushQ (q : PQ) (x : Int × Int) : PQ := if q.items = [] then { q with deficit := 0, served := false, items := [x] } else { q with items := q.items ++ [x] }
def pushP (S : PS) (q : PQ) (x : Int × Int) : PS := { S with qs := putQ (pushQ q x) S.qs, round := if q.items = [] then S.round ++ [q.id] else S.round }
theorem pushQ_id (q : PQ) (x : Int × Int) : (pushQ q x).id = q.id := by unfold pushQ; split <;> rfl
theorem pushQ_items (q : PQ) (x : Int × Int) : (pushQ q x).items = q.items ++ [x] := by
  unfold pushQ
  split
  · rename_i h; rw [h]; rfl
  · rfl
theorem pushP_ok {S : PS} {q : PQ} {x : Int × Int} (h : S.Ok) (hg : getQ q.id S.qs = some q) (hx : x.1 = q.id ∧ 1 ≤ x.2 ∧ x.2 ≤ 65536) : (pushP S q x).Ok := by
  have hq := h.q q (getQ_mem hg).1
  have hg' : getQ (pushQ q x).id S.qs = some q := by rw [pushQ_id]; exact hg
  have hit : ∀ y ∈ (pushQ q x).items, y.1 = q.id ∧ 1 ≤ y.2 ∧ y.2 ≤ 65536 := fun y hy => by
    rw [pushQ_items] at hy
    rcases List.mem_append.1 hy with hy | hy
    · exact hq.it y hy
    · obtain rfl := List.mem_singleton.1 hy
      exact hx
  refine ⟨h.qm, by show ((putQ (pushQ q x) S.qs).map PQ.id).Nodup; rw [putQ_ids]; exact h.nd, fun f hf => ?_, ?_, fun id => ?_⟩
  · rcases putQ_mem hf with ⟨rfl, _⟩ | ⟨hf, _⟩
    · refine ⟨by rw [pushQ_id]; exact hq.id, ?_, fun y hy => by rw [pushQ_id]; exact hit y hy, ?_, ?_⟩
      · unfold pushQ; split <;> exact hq.wt
      · unfold pushQ; split
        · exact ⟨by simp, by simp⟩
        · exact hq.df
      · unfold pushQ; split
        · intro _; simp
        · exact hq.sv
    · exact h.q f hf
  · show (if q.items = [] then S.round ++ [q.id] else S.round).Nodup
    split
    · rename_i h0
      rw [List.nodup_append]
      refine ⟨h.rn, by simp, fun a ha b hb => ?_⟩
      simp at hb
      rintro rfl
      obtain ⟨q', hq', hne⟩ := (h.rm a).1 ha
      rw [hb, hg] at hq'
      cases hq'
      exact hne h0
    · exact h.rn
  · show id ∈ (if q.items = [] then S.round ++ [q.id] else S.round) ↔ ∃ f, getQ id (putQ (pushQ q x) S.qs) = some f ∧ f.items ≠ []
    rw [getQ_putQ hg', pushQ_id]
    by_cases hi : id = q.id
    · rw [if_pos hi]
      have h1 : (∃ f, some (pushQ q x) = some f ∧ f.items ≠ []) := ⟨_, rfl, by rw [pushQ_items]; simp⟩
      refine ⟨fun _ => h1, fun _ => ?_⟩
      split
      · simp [hi]
      · rename_i hne
        exact (h.rm id).2 ⟨q, by rw [hi]; exact hg, hne⟩
    · rw [if_neg hi, ← h.rm id]
      split
      · simp [hi]
      · exact Iff.rfl
/-- The first of the round takes more, once a turn. -/
def servP (z : Int) (q : PQ) : PQ := if q.served then q else { q with deficit := q.deficit + z * q.weight, served := true }
def turnP (S : PS) (q : PQ) (rest : List Int) : PS := { S with qs := putQ { servP S.quantum q with served := false } S.qs, round := rest ++ [q.id] }
def takeQ (z : Int) (q : PQ) (x : Int × Int) (xs : List (Int × Int)) : PQ := if xs = [] then { servP z q with deficit := 0, items := xs } else { servP z q with deficit := (servP z q).deficit - x.2, items := xs }
def takeP (S : PS) (q : PQ) (rest : List Int) (x : Int × Int) (xs : List (Int × Int)) : PS := { S with qs := putQ (takeQ S.quantum q x xs) S.qs, round := if xs = [] then rest else S.round }
/-- Whose turn it is. -/
structure Front (S : PS) (q : PQ) (rest : List Int) (x : Int × Int) (xs : List (Int × Int)) : Prop where
  r : S.round = q.id :: rest
  g : getQ q.id S.qs = some q
  i : q.items = x :: xs
theorem PS.Ok.front {S : PS} (h : S.Ok) (hr : S.round ≠ []) : ∃ q rest x xs, Front S q rest x xs := by
  match hS : S.round, hr with
  | id :: rest, _ =>
    obtain ⟨q, hq, hne⟩ := (h.rm id).1 (by rw [hS]; exact List.mem_cons_self)
    obtain rfl := (getQ_mem hq).2
    match hi : q.items, hne with
    | x :: xs, _ => exact ⟨q, rest, x, xs, hS, hq, hi⟩
theorem servP_id (z : Int) (q : PQ) : (servP z q).id = q.id := by unfold servP; split <;> rfl
theorem servP_items (z : Int) (q : PQ) : (servP z q).items = q.items := by unfold servP; split <;> rfl
theorem servP_weight (z : Int) (q : PQ) : (servP z q).weight = q.weight := by unfold servP; split <;> rfl
theorem mul_wt {z w : Int} (h1 : 1 ≤ z) (h2 : z ≤ 65536) (h3 : 1 ≤ w) (h4 : w ≤ 255) : 1 ≤ z * w ∧ z * w ≤ 16711680 := by
  have a := Int.mul_le_mul h2 h4 (by omega) (by omega)
  have b := Int.mul_le_mul h1 h3 (by omega) (by omega)
  omega
theorem servP_df {z : Int} {q : PQ} (hz : 1 ≤ z ∧ z ≤ 65536) (h : q.Ok) : 0 ≤ (servP z q).deficit ∧ (servP z q).deficit ≤ 16777215 := by
  unfold servP
  have hm := mul_wt hz.1 hz.2 h.wt.1 h.wt.2
  have := h.df
  have hs := h.sv
  cases hv : q.served with
  | true => rw [if_pos rfl]; exact this
  | false =>
    rw [if_neg (by simp)]
    have := hs hv
    generalize z * q.weight = y at hm ⊢
    simp only
    omega
theorem turnP_ok {S : PS} {q : PQ} {rest : List Int} {x : Int × Int} {xs : List (Int × Int)} (h : S.Ok) (hf : Front S q rest x xs) (hd : (servP S.quantum q).deficit < x.2) : (turnP S q rest).Ok := by
  have hq := h.q q (getQ_mem hf.g).1
  have hx := hq.it x (by rw [hf.i]; exact List.mem_cons_self)
  have hdf := servP_df h.qm hq
  have hg' : getQ ({ servP S.quantum q with served := false } : PQ).id S.qs = some q := by
    show getQ (servP S.quantum q).id S.qs = _
    rw [servP_id]; exact hf.g
  refine ⟨h.qm, by show ((putQ _ S.qs).map PQ.id).Nodup; rw [putQ_ids]; exact h.nd, fun f hf2 => ?_, ?_, fun id => ?_⟩
  · rcases putQ_mem hf2 with ⟨rfl, _⟩ | ⟨hf2, _⟩
    · refine ⟨by show 0 ≤ (servP S.quantum q).id ∧ _; rw [servP_id]; exact hq.id, by show 1 ≤ (servP S.quantum q).weight ∧ _; rw [servP_weight]; exact hq.wt, ?_, hdf, fun _ => ?_⟩
      · show ∀ y ∈ (servP S.quantum q).items, y.1 = (servP S.quantum q).id ∧ _
        rw [servP_items, servP_id]
        exact hq.it
      · show (servP S.quantum q).deficit ≤ 65535
        omega
    · exact h.q f hf2
  · have hn := h.rn
    rw [hf.r, List.nodup_cons] at hn
    show (rest ++ [q.id]).Nodup
    rw [List.nodup_append]
    refine ⟨hn.2, by simp, fun a ha b hb => ?_⟩
    simp at hb
    rintro rfl
    exact hn.1 (hb ▸ ha)
  · show id ∈ rest ++ [q.id] ↔ ∃ f, getQ id (putQ _ S.qs) = some f ∧ f.items ≠ []
    rw [getQ_putQ hg']
    have hid : ({ servP S.quantum q with served := false } : PQ).id = q.id := servP_id _ _
    rw [hid]
    by_cases hi : id = q.id
    · rw [if_pos hi]
      refine ⟨fun _ => ⟨_, rfl, ?_⟩, fun _ => by simp [hi]⟩
      show (servP S.quantum q).items ≠ []
      rw [servP_items, hf.i]
      simp
    · rw [if_neg hi, ← h.rm id, hf.r]
      simp [hi]
theorem takeQ_id (z : Int) (q : PQ) (x : Int × Int) (xs : List (Int × Int)) : (takeQ z q x xs).id = q.id := by
  unfold takeQ
  split <;> exact servP_id z q
theorem takeQ_items (z : Int) (q : PQ) (x : Int × Int) (xs : List (Int × Int)) : (takeQ z q x xs).items = xs := by
  unfold takeQ
  split <;> rfl
theorem servP_served (z : Int) (q : PQ) : (servP z q).served = true := by
  unfold servP
  split
  · assumption
  · rfl
theorem takeP_ok {S : PS} {q : PQ} {rest : List Int} {x : Int × Int} {xs : List (Int × Int)} (h : S.Ok) (hf : Front S q rest x xs) (hd : x.2 ≤ (servP S.quantum q).deficit) : (takeP S q rest x xs).Ok := by
  have hq := h.q q (getQ_mem hf.g).1
  have hx := hq.it x (by rw [hf.i]; exact List.mem_cons_self)
  have hdf := servP_df h.qm hq
  have hg' : getQ (takeQ S.quantum q x xs).id S.qs = some q := by rw [takeQ_id]; exact hf.g
  refine ⟨h.qm, by show ((putQ _ S.qs).map PQ.id).Nodup; rw [putQ_ids]; exact h.nd, fun f hf2 => ?_, ?_, fun id => ?_⟩
  · rcases putQ_mem hf2 with ⟨rfl, _⟩ | ⟨hf2, _⟩
    · refine ⟨by rw [takeQ_id]; exact hq.id, ?_, ?_, ?_, ?_⟩
      · unfold takeQ
        split
        · show 1 ≤ (servP S.quantum q).weight ∧ _
          rw [servP_weight]; exact hq.wt
        · show 1 ≤ (servP S.quantum q).weight ∧ _
          rw [servP_weight]; exact hq.wt
      · rw [takeQ_items, takeQ_id]
        intro y hy
        exact hq.it y (by rw [hf.i]; exact List.mem_cons_of_mem _ hy)
      · unfold takeQ
        split
        · exact ⟨Int.le_refl _, by simp⟩
        · simp only
          omega
      · intro hs
        have : (takeQ S.quantum q x xs).served = true := by
          unfold takeQ
          split <;> exact servP_served _ _
        rw [this] at hs
        cases hs
    · exact h.q f hf2
  · have hn := h.rn
    show (if xs = [] then rest else S.round).Nodup
    split
    · rw [hf.r, List.nodup_cons] at hn
      exact hn.2
    · exact hn
  · show id ∈ (if xs = [] then rest else S.round) ↔ ∃ f, getQ id (putQ _ S.qs) = some f ∧ f.items ≠ []
    rw [getQ_putQ hg', takeQ_id]
    have hn := h.rn
    rw [hf.r, List.nodup_cons] at hn
    by_cases hi : id = q.id
    · rw [if_pos hi]
      have : (∃ f, some (takeQ S.quantum q x xs) = some f ∧ f.items ≠ []) ↔ xs ≠ [] := by
        constructor
        · rintro ⟨f, hf, hne⟩
          cases hf
          rwa [takeQ_items] at hne
        · intro hne
          exact ⟨_, rfl, by rwa [takeQ_items]⟩
      rw [this]
      split
      · rename_i h0
        refine ⟨fun hm => absurd (hi ▸ hm) hn.1, fun hm => absurd h0 hm⟩
      · rename_i h0
        refine ⟨fun _ => h0, fun _ => by rw [hf.r, hi]; exact List.mem_cons_self⟩
    · rw [if_neg hi, ← h.rm id, hf.r]
      split <;> simp [hi]
/-! How long it may go on. -/
def muQ (q : PQ) : Nat := 2 * (65536 - q.deficit).toNat + (if q.served then 1 else 0)
theorem turnP_mu {S : PS} {q : PQ} {rest : List Int} {x : Int × Int} {xs : List (Int × Int)} (h : S.Ok) (hf : Front S q rest x xs) (hd : (servP S.quantum q).deficit < x.2) : sumQ muQ (turnP S q rest).qs < sumQ muQ S.qs := by
  have hq := h.q q (getQ_mem hf.g).1
  have hx := hq.it x (by rw [hf.i]; exact List.mem_cons_self)
  have hg' : getQ ({ servP S.quantum q with served := false } : PQ).id S.qs = some q := by
    show getQ (servP S.quantum q).id S.qs = _
    rw [servP_id]; exact hf.g
  have hs := sumQ_putQ muQ h.nd hg'
  show sumQ muQ (putQ _ S.qs) < _
  have hlt : muQ ({ servP S.quantum q with served := false } : PQ) < muQ q := by
    have hm := mul_wt h.qm.1 h.qm.2 hq.wt.1 hq.wt.2
    unfold servP at hd ⊢
    cases hv : q.served with
    | true =>
      rw [hv] at hd
      unfold muQ
      simp only [hv, if_true] at hd ⊢
      simp
    | false =>
      rw [hv] at hd
      unfold muQ
      simp only [hv, Bool.false_eq_true, if_false] at hd ⊢
      generalize S.quantum * q.weight = y at hm hd ⊢
      omega
  omega
/-- Some turns went by. -/
inductive Turned (S : PS) : PS → Prop
  | refl : Turned S S
  | snoc {T : PS} {q : PQ} {rest : List Int} {x : Int × Int} {xs : List (Int × Int)} : Turned S T → Front T q rest x xs → (servP T.quantum q).deficit < x.2 → Turned S (turnP T q rest)
theorem Turned.ok {S T : PS} (h : Turned S T) (hS : S.Ok) : T.Ok := by
  induction h with
  | refl => exact hS
  | snoc _ hf hd ih => exact turnP_ok ih hf hd
theorem turnP_tot {S : PS} {q : PQ} {rest : List Int} {x : Int × Int} {xs : List (Int × Int)} (h : S.Ok) (hf : Front S q rest x xs) : totQ (turnP S q rest).qs = totQ S.qs := by
  have hg' : getQ ({ servP S.quantum q with served := false } : PQ).id S.qs = some q := by
    show getQ (servP S.quantum q).id S.qs = _
    rw [servP_id]; exact hf.g
  have hs := sumQ_putQ (fun q => q.items.length) h.nd hg'
  show totQ (putQ _ S.qs) = _
  unfold totQ
  have e : (servP S.quantum q).items.length = q.items.length := by rw [servP_items]
  have hs2 : _ + q.items.length = _ + (servP S.quantum q).items.length := hs
  rw [e] at hs2
  exact Nat.add_right_cancel hs2
theorem takeP_tot {S : PS} {q : PQ} {rest : List Int} {x : Int × Int} {xs : List (Int × Int)} (h : S.Ok) (hf : Front S q rest x xs) : totQ (takeP S q rest x xs).qs + 1 = totQ S.qs := by
  have hg' : getQ (takeQ S.quantum q x xs).id S.qs = some q := by rw [takeQ_id]; exact hf.g
  have hs := sumQ_putQ (fun q => q.items.length) h.nd hg'
  show totQ (putQ _ S.qs) + 1 = _
  unfold totQ
  simp only [takeQ_items, hf.i, List.length_cons] at hs
  omega
theorem pushP_tot {S : PS} {q : PQ} {x : Int × Int} (h : S.Ok) (hg : getQ q.id S.qs = some q) : totQ (pushP S q x).qs = totQ S.qs + 1 := by
  have hg' : getQ (pushQ q x).id S.qs = some q := by rw [pushQ_id]; exact hg
  have hs := sumQ_putQ (fun q => q.items.length) h.nd hg'
  show totQ (putQ _ S.qs) = _
  unfold totQ
  simp only [pushQ_items, List.length_append, List.length_cons, List.length_nil] at hs
  omega
theorem len_le_tot {S : PS} {q : PQ} {id : Int} (hg : getQ id S.qs = some q) : q.items.length ≤ totQ S.qs := sumQ_le (fun q => q.items.length) (getQ_mem hg).1
end Go.Proofs.Ytgfbhclkpephnaa
