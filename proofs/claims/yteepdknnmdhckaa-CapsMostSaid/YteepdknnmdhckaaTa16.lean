/-
  The table: Put, Get, Take by lists (chapter 18).
-/
import Derived.Test.YteepdknnmdhckaaTa15
namespace Go.Proofs.Yteepdknnmdhckaa
open Go Go.RowKit Go.MuLone
set_option linter.unusedVariables false
set_option linter.unusedSimpArgs false
set_option maxRecDepth 100000
set_option maxHeartbeats 1000000
def TS.A (s : TS) : List DE := s.es.map TE.d
def getD (k : Int × Int) : List DE → Option DE
  | [] => none
  | d :: A => if d.1 = k then some d else getD k A
theorem getD_map (k : Int × Int) : ∀ es : List TE, getD k (es.map TE.d) = (getE k es).map TE.d
  | [] => rfl
  | e :: es => by
    show (if e.k = k then some e.d else getD k (es.map TE.d)) = _
    unfold getE
    by_cases h : e.k = k
    · rw [if_pos h, if_pos h]; rfl
    · rw [if_neg h, if_neg h, getD_map k es]
def badX (need : Int) (x : Sh) : Prop := need < 1 ∨ 32 < need ∨ x.1 < 0 ∨ 254 < x.1
instance (need : Int) (x : Sh) : Decidable (badX need x) := by unfold badX; infer_instance
def putV (room : Nat) (A : List DE) (k : Int × Int) (need : Int) (x : Sh) : Nat :=
  if badX need x then 5 else
    match getD k A with
    | some d => judgeN d need x
    | none => if room ≤ A.length then 2 else if need = 1 then 3 else 0
def putA (room : Nat) (A : List DE) (k : Int × Int) (need : Int) (x : Sh) : List DE :=
  if badX need x then A else
    match getD k A with
    | some d => A.map fun f => if f.1 = k then (f.1, f.2.1, judgeL f need x) else f
    | none => if room ≤ A.length then A else A ++ [(k, need, [x])]
theorem putV_le (room : Nat) (A : List DE) (k : Int × Int) (need : Int) (x : Sh) : putV room A k need x ≤ 5 := by
  unfold putV
  split
  · omega
  · split
    · exact judgeN_le _ _ _
    · split
      · omega
      · split <;> omega
theorem key_one {es : List TE} (hn : (es.map TE.k).Nodup) {e f : TE} (he : e ∈ es) (hf : f ∈ es) (h : f.k = e.k) : f = e := by
  obtain ⟨i, hi, rfl⟩ := List.getElem_of_mem he
  obtain ⟨j, hj, rfl⟩ := List.getElem_of_mem hf
  have : j = i := nodup_at hn (x := (es[j]).k) (by rw [List.getElem?_map, List.getElem?_eq_getElem hj]; rfl) (by rw [List.getElem?_map, List.getElem?_eq_getElem hi, h]; rfl)
  subst this
  rfl
theorem eb_one {es : List TE} (hn : (es.map TE.eb).Nodup) {e f : TE} (he : e ∈ es) (hf : f ∈ es) (h : f.eb = e.eb) : f = e := by
  obtain ⟨i, hi, rfl⟩ := List.getElem_of_mem he
  obtain ⟨j, hj, rfl⟩ := List.getElem_of_mem hf
  have : j = i := nodup_at hn (x := (es[j]).eb) (by rw [List.getElem?_map, List.getElem?_eq_getElem hj]; rfl) (by rw [List.getElem?_map, List.getElem?_eq_getElem hi, h]; rfl)
  subst this
  rfl
theorem setE_d {es : List TE} (hk : (es.map TE.k).Nodup) (hb : (es.map TE.eb).Nodup) {e : TE} (he : e ∈ es) (need : Int) (x : Sh) (sv : Value) :
    (setE { e with l := judgeL e.d need x, sv := sv } es).map TE.d = (es.map TE.d).map fun f => if f.1 = e.k then (f.1, f.2.1, judgeL f need x) else f := by
  unfold setE
  rw [List.map_map, List.map_map]
  refine List.map_congr_left fun f hf => ?_
  simp only [Function.comp_apply]
  by_cases h : f.eb = e.eb
  · have := eb_one hb he hf h
    subst this
    rw [if_pos h]
    show _ = if f.k = f.k then _ else _
    rw [if_pos rfl]
    rfl
  · rw [if_neg h]
    have hne : ¬ f.k = e.k := fun h' => h (by rw [key_one hk he hf h'])
    show _ = if f.k = e.k then _ else _
    rw [if_neg hne]
theorem setE_made {e e' : TE} {es : List TE} (he : e ∈ es) (hb : (es.map TE.eb).Nodup) (h1 : e'.eb = e.eb) (h2 : e'.made = e.made) : (setE e' es).map TE.made = es.map TE.made := by
  unfold setE
  rw [List.map_map]
  refine List.map_congr_left fun f hf => ?_
  simp only [Function.comp_apply]
  by_cases h : f.eb = e'.eb
  · rw [if_pos h, h2, eb_one hb he hf (h.trans h1)]
  · rw [if_neg h]
theorem TOk.set {s : TS} (ok : TOk s) {e : TE} (he : e ∈ s.es) (hb : (s.es.map TE.eb).Nodup) (need : Int) (x : Sh) (sv : Value) : TOk { s with es := setE { e with l := judgeL e.d need x, sv := sv } s.es } := by
  obtain ⟨m1, m2, m3⟩ := setE_mp (e' := { e with l := judgeL e.d need x, sv := sv }) he hb rfl rfl
  have hl : (setE { e with l := judgeL e.d need x, sv := sv } s.es).length = s.es.length := by unfold setE; rw [List.length_map]
  refine ⟨by rw [hl]; exact ok.n, by rw [hl]; exact ok.r, ok.r1, ok.r2, ok.p1, ok.p2, by rw [m2]; exact ok.kn, ?_, fun f hf => ?_, fun f hf => ?_⟩
  · rw [setE_made (e' := { e with l := judgeL e.d need x, sv := sv }) he hb rfl rfl]; exact ok.mi
  · obtain ⟨g, hg, rfl⟩ := List.mem_map.1 hf
    by_cases h : g.eb = e.eb
    · rw [if_pos h]; exact ok.mb e he
    · rw [if_neg h]; exact ok.mb g hg
  · obtain ⟨g, hg, rfl⟩ := List.mem_map.1 hf
    by_cases h : g.eb = e.eb
    · rw [if_pos h]; exact judge_ok (ok.ok e he) need x sv
    · rw [if_neg h]; exact ok.ok g hg
theorem TOk.add {s : TS} (ok : TOk s) {k : Int × Int} (hk : getE k s.es = none) (hr : s.n < s.room) (need : Int) (h1 : 1 ≤ need) (h2 : need ≤ 32) (x : Sh) (eb : Nat) (sv : Value) : TOk { s with es := s.es ++ [⟨k, need, [x], s.made + 1, eb, sv⟩], n := s.n + 1, made := s.made + 1 } := by
  refine ⟨by simp [ok.n], ?_, ok.r1, ok.r2, ok.p1, ok.p2, ?_, ?_, fun f hf => ?_, fun f hf => ?_⟩
  · show (s.es ++ [_]).length ≤ s.room
    have := ok.n
    simp
    omega
  · rw [List.map_append, List.nodup_append]
    refine ⟨ok.kn, by simp, fun a ha b hb => ?_⟩
    obtain ⟨f, hf, rfl⟩ := List.mem_map.1 ha
    simp at hb
    rw [hb]
    exact getE_none hk f hf
  · rw [List.map_append, List.pairwise_append]
    refine ⟨ok.mi, by simp, fun a ha b hb => ?_⟩
    obtain ⟨f, hf, rfl⟩ := List.mem_map.1 ha
    have := (ok.mb f hf).2
    simp at hb
    omega
  · rcases List.mem_append.1 hf with hf | hf
    · have := ok.mb f hf
      exact ⟨this.1, Nat.le_succ_of_le this.2⟩
    · rw [List.mem_singleton.1 hf]
      exact ⟨Nat.succ_pos _, Nat.le_refl _⟩
  · rcases List.mem_append.1 hf with hf | hf
    · exact ok.ok f hf
    · rw [List.mem_singleton.1 hf]
      exact ⟨h1, h2, Nat.one_pos, by simpa using h1, by simp [Rise]⟩
theorem TOk.sub {s : TS} (ok : TOk s) (p : TE → Bool) : TOk { s with es := s.es.filter p, n := (s.es.filter p).length } := by
  have hs : (s.es.filter p).Sublist s.es := List.filter_sublist
  exact ⟨rfl, Nat.le_trans hs.length_le ok.r, ok.r1, ok.r2, ok.p1, ok.p2, List.Sublist.nodup (hs.map _) ok.kn, List.Pairwise.sublist (hs.map _) ok.mi, fun f hf => ok.mb f (hs.subset hf), fun f hf => ok.ok f (hs.subset hf)⟩
theorem dropK_length {s : TS} (ok : TOk s) {k : Int × Int} {e : TE} (hk : getE k s.es = some e) : (dropK k s.es).length = s.n - 1 := by
  rw [ok.n]
  have key : ∀ (es : List TE), (es.map TE.k).Nodup → getE k es = some e → (dropK k es).length = es.length - 1 := by
    intro es
    induction es with
    | nil => intro _ h; cases h
    | cons f es ih =>
      intro hn h
      rw [List.map_cons, List.nodup_cons] at hn
      by_cases hf : f.k = k
      · have : dropK k (f :: es) = es := by
          unfold dropK
          rw [List.filter_cons_of_neg (by simp [hf])]
          refine List.filter_eq_self.2 fun g hg => ?_
          have : ¬ g.k = k := fun h' => hn.1 (by rw [hf, ← h']; exact List.mem_map.2 ⟨g, hg, rfl⟩)
          simp [this]
        rw [this]; simp
      · have h' : getE k es = some e := by rw [getE, if_neg hf] at h; exact h
        have := ih hn.2 h'
        have hpos : 0 < es.length := List.length_pos_of_mem (getE_some h').1
        unfold dropK at this ⊢
        rw [List.filter_cons_of_pos (by simp [hf]), List.length_cons, this, List.length_cons]
        omega
  exact key s.es ok.kn hk
theorem dropK_d (k : Int × Int) (es : List TE) : (dropK k es).map TE.d = (es.map TE.d).filter fun f => !decide (f.1 = k) := by
  unfold dropK
  rw [List.filter_map]
  rfl
/-- Behind a call: the table reads as A. -/
structure Tab (base : Nat) (w : World) (bt : Nat) (room : Nat) (A : List DE) (m : Nat) (s : TS) : Prop where
  h : TabM base w bt s none
  ok : TOk s
  a : s.A = A
  r : s.room = room
  m : s.made ≤ m
theorem Tab.chain {base : Nat} {w w' : World} {bt room : Nat} {A : List DE} {m : Nat} {s : TS} (h : Tab base w bt room A m s) (hb : Below w.heap.size w w') : Tab base w' bt room A m s := ⟨h.h.chain hb, h.ok, h.a, h.r, h.m⟩
def TabR (base bt room : Nat) (A : List DE) (m : Nat) (w : World) (v : Value) (e : Ending) (w' : World) : Prop := e = .returned v ∧ (∃ s', Tab base w' bt room A m s') ∧ Turn base KT w w'
end Go.Proofs.Yteepdknnmdhckaa
