/-
  The table: put, where a shard is for an entry that is there (chapter 18).
-/
import Derived.Test.YteepdknnmdhckaaTa11
namespace Go.Proofs.Yteepdknnmdhckaa
open Go Go.RowKit Go.MuLone
set_option linter.unusedVariables false
set_option linter.unusedSimpArgs false
set_option maxRecDepth 100000
set_option maxHeartbeats 2000000
/-- What a table is to be. -/
structure TOk (s : TS) : Prop where
  n : s.n = s.es.length
  r : s.es.length ≤ s.room
  r1 : 1 ≤ s.room
  r2 : s.room ≤ 65536
  p1 : 1 ≤ s.ps.length
  p2 : s.ps.length ≤ 64
  kn : (s.es.map TE.k).Nodup
  mi : (s.es.map TE.made).Pairwise (· < ·)
  mb : ∀ e ∈ s.es, 1 ≤ e.made ∧ e.made ≤ s.made
  ok : ∀ e ∈ s.es, EOk e
def getE (k : Int × Int) : List TE → Option TE
  | [] => none
  | e :: es => if e.k = k then some e else getE k es
theorem getE_some {k : Int × Int} {e : TE} : ∀ {es : List TE}, getE k es = some e → e ∈ es ∧ e.k = k
  | [], h => by cases h
  | f :: es, h => by
    unfold getE at h
    by_cases hf : f.k = k
    · rw [if_pos hf] at h
      cases h
      exact ⟨List.mem_cons_self, hf⟩
    · rw [if_neg hf] at h
      obtain ⟨h1, h2⟩ := getE_some h
      exact ⟨List.mem_cons_of_mem _ h1, h2⟩
theorem getE_none {k : Int × Int} : ∀ {es : List TE}, getE k es = none → ∀ e ∈ es, e.k ≠ k
  | [], _, e, he => by cases he
  | f :: es, h, e, he => by
    unfold getE at h
    by_cases hf : f.k = k
    · rw [if_pos hf] at h; cases h
    · rw [if_neg hf] at h
      rcases List.mem_cons.1 he with rfl | he
      · exact hf
      · exact getE_none h e he
theorem getM_inP (P : Nat) (k : Int × Int) : ∀ (es : List TE), getM k (inP P es (partOf P k)) = (getE k es).map fun e => ptr e.eb
  | [] => rfl
  | e :: es => by
    have ih := getM_inP P k es
    by_cases hk : e.k = k
    · have h1 : inP P (e :: es) (partOf P k) = e.mp :: inP P es (partOf P k) := by unfold inP; rw [List.filter_cons_of_pos (by simp [hk])]; rfl
      rw [h1]
      have h2 : getE k (e :: es) = some e := by unfold getE; rw [if_pos hk]
      rw [h2]
      show (if e.k = k then some (ptr e.eb) else _) = _
      rw [if_pos hk]
      rfl
    · have h2 : getE k (e :: es) = getE k es := by rw [getE, if_neg hk]
      rw [h2, ← ih]
      by_cases hp : partOf P e.k = partOf P k
      · have h1 : inP P (e :: es) (partOf P k) = e.mp :: inP P es (partOf P k) := by unfold inP; rw [List.filter_cons_of_pos (by simp [hp])]; rfl
        rw [h1]
        show (if e.k = k then some (ptr e.eb) else _) = _
        rw [if_neg hk]
      · have h1 : inP P (e :: es) (partOf P k) = inP P es (partOf P k) := by unfold inP; rw [List.filter_cons_of_neg (by simp [hp])]
        rw [h1]
/-- An entry's shards, turned. -/
def setE (e' : TE) (es : List TE) : List TE := es.map fun f => if f.eb = e'.eb then e' else f
theorem setE_mp {e e' : TE} {es : List TE} (he : e ∈ es) (hn : (es.map TE.eb).Nodup) (h1 : e'.k = e.k) (h2 : e'.eb = e.eb) : (setE e' es).map TE.mp = es.map TE.mp ∧ (setE e' es).map TE.k = es.map TE.k ∧ (setE e' es).map TE.eb = es.map TE.eb := by
  have key : ∀ f ∈ es, f.eb = e'.eb → f = e := fun f hf hb => by
    rw [h2] at hb
    obtain ⟨i, hi, rfl⟩ := List.getElem_of_mem hf
    obtain ⟨j, hj, rfl⟩ := List.getElem_of_mem he
    have : i = j := nodup_at hn (x := (es[i]).eb) (by rw [List.getElem?_map, List.getElem?_eq_getElem hi]; rfl) (by rw [List.getElem?_map, List.getElem?_eq_getElem hj, hb]; rfl)
    subst this
    rfl
  unfold setE
  rw [List.map_map, List.map_map, List.map_map]
  refine ⟨List.map_congr_left fun f hf => ?_, List.map_congr_left fun f hf => ?_, List.map_congr_left fun f hf => ?_⟩
  all_goals
    simp only [Function.comp_apply]
    by_cases hb : f.eb = e'.eb
    · rw [if_pos hb]
      have := key f hf hb
      subst this
      first | exact h1 | exact h2 | (show (e'.k, _) = (_, _); rw [h1, h2])
    · rw [if_neg hb]
theorem inP_keys (P j : Nat) : ∀ {es es' : List TE}, es.map TE.mp = es'.map TE.mp → inP P es j = inP P es' j
  | [], [], _ => rfl
  | [], _ :: _, h => by cases h
  | _ :: _, [], h => by cases h
  | e :: es, f :: fs, h => by
    rw [List.map_cons, List.map_cons, List.cons.injEq] at h
    have ih := inP_keys P j h.2
    have hk : e.k = f.k := congrArg Prod.fst h.1
    unfold inP at ih ⊢
    by_cases hp : partOf P e.k = j
    · rw [List.filter_cons_of_pos (by simp [hp]), List.filter_cons_of_pos (by simp [← hk, hp]), List.map_cons, List.map_cons, ih, h.1]
    · rw [List.filter_cons_of_neg (by simp [hp]), List.filter_cons_of_neg (by simp [← hk, hp]), ih]
theorem TabM.setEnt {base : Nat} {w w' : World} {bt : Nat} {s : TS} {hd : Option Nat} (h : TabM base w bt s hd) {e e' : TE} (he : e ∈ s.es) (h1 : e'.k = e.k) (h2 : e'.eb = e.eb) (ho : Only [e.eb] w w') (hm : EntM w' base e') : TabM base w' bt { s with es := setE e' s.es } hd := by
  have ht : Turn base [some 211] w w' := Turn.one ho (h.pe e he).lo (h.pe e he).b.kind (by simp)
  obtain ⟨m1, m2, m3⟩ := setE_mp he h.en h1 h2
  refine ⟨ht.blk h.tb (by decide), h.lo, ht.seg h.pa (by decide), fun i q hq => ⟨ht.blk (h.pc i q hq).1 (by decide), (h.pc i q hq).2⟩, fun i q hq => ⟨?_, (h.pm i q hq).2⟩, h.n1, h.n2, fun f hf => ?_, by rw [m3]; exact h.en⟩
  · have := ht.map (h.pm i q hq).1 (by decide)
    show MapW encK w' q.2 (inP s.ps.length (setE e' s.es) i)
    rw [inP_keys s.ps.length i m1]
    exact this
  · obtain ⟨f0, hf0, rfl⟩ := List.mem_map.1 hf
    by_cases hb : f0.eb = e'.eb
    · rw [if_pos hb]; exact hm
    · rw [if_neg hb]
      exact ⟨(h.pe f0 hf0).b.only ho (by rw [← h2]; simpa using hb), ht.seg (h.pe f0 hf0).s (by decide), (h.pe f0 hf0).lo⟩
theorem und63 : Try.prog.underlying 104 = some (.map 169 188) := Try.underlying104
theorem zeroE (w : World) : (zeroValue 188).run Try.prog w = .ok (.pointer none) w := by kernel_rfl
end Go.Proofs.Yteepdknnmdhckaa
