/-
  The document's Put answers as the lists say (chapter 49).
-/
import Derived.Test.YtgfbhclkpephnaaFpI
namespace Go.Proofs.Ytgfbhclkpephnaa
open Go Go.RowKit
set_option linter.unusedVariables false
set_option linter.unusedSimpArgs false
set_option maxRecDepth 100000
set_option maxHeartbeats 1000000
theorem nd_le {α : Type} [DecidableEq α] : ∀ (l m : List α), l.Nodup → (∀ x ∈ l, x ∈ m) → l.length ≤ m.length
  | [], m, _, _ => Nat.zero_le _
  | x :: l, m, hn, hs => by
    have h1 := List.nodup_cons.1 hn
    have hx : x ∈ m := hs x List.mem_cons_self
    have ih := nd_le l (m.erase x) h1.2 fun y hy => by
      have hne : y ≠ x := fun e => h1.1 (e ▸ hy)
      exact (List.mem_erase_of_ne hne).2 (hs y (List.mem_cons_of_mem _ hy))
    rw [List.length_erase_of_mem hx] at ih
    have : 0 < m.length := List.length_pos_of_mem hx
    simp only [List.length_cons]
    omega
theorem getP_key {k : Int} : ∀ {ps : List (Int × List UInt8)}, k ∈ ps.map Prod.fst → ∃ v, getP k ps = some v
  | [], h => by cases h
  | p :: ps, h => by
    unfold getP
    by_cases hk : p.1 = k
    · rw [if_pos hk]; exact ⟨_, rfl⟩
    · rw [if_neg hk]
      rcases List.mem_cons.1 h with h | h
      · exact absurd h.symm hk
      · exact getP_key h
theorem range_int (n : Nat) : ((List.range n).map fun (k : Nat) => (k : Int)).Nodup := by
  exact List.Pairwise.map _ (fun a b h e => h (by omega)) List.nodup_range
theorem whole_iff {ps : List (Int × List UInt8)} {n : Nat} (hk : (ps.map Prod.fst).Nodup) (hr : ∀ p ∈ ps, 0 ≤ p.1 ∧ p.1 < (n : Int)) (hb : ∀ p ∈ ps, p.2 ≠ []) : allP ps n ↔ ¬ (ps.length : Int) < (n : Int) := by
  constructor
  · intro h hlt
    have := nd_le ((List.range n).map fun (k : Nat) => (k : Int)) (ps.map Prod.fst) (range_int n) fun x hx => by
      obtain ⟨k, hk, rfl⟩ := List.mem_map.1 hx
      have hne := h k (List.mem_range.1 hk)
      cases hg : getP (k : Int) ps with
      | none => rw [hg] at hne; exact absurd rfl hne
      | some v => exact List.mem_map.2 ⟨_, getP_mem hg, rfl⟩
    simp only [List.length_map, List.length_range] at this
    omega
  · intro h k hkn
    by_cases hm : (k : Int) ∈ ps.map Prod.fst
    · obtain ⟨v, hv⟩ := getP_key hm
      rw [hv]
      exact hb _ (getP_mem hv)
    · have := nd_le ((k : Int) :: ps.map Prod.fst) ((List.range n).map fun (k : Nat) => (k : Int)) (List.nodup_cons.2 ⟨hm, hk⟩) fun x hx => by
        rcases List.mem_cons.1 hx with rfl | hx
        · exact List.mem_map.2 ⟨k, List.mem_range.2 hkn, rfl⟩
        · obtain ⟨p, hp, rfl⟩ := List.mem_map.1 hx
          have := hr p hp
          exact List.mem_map.2 ⟨p.1.toNat, List.mem_range.2 (by omega), by omega⟩
      simp only [List.length_cons, List.length_map, List.length_range] at this
      omega
theorem setP_keys (k : Int) (b : List UInt8) : ∀ {ps : List (Int × List UInt8)}, (setP k b ps).map Prod.fst = if k ∈ ps.map Prod.fst then ps.map Prod.fst else ps.map Prod.fst ++ [k]
  | [] => rfl
  | p :: ps => by
    unfold setP
    by_cases h : p.1 = k
    · rw [if_pos h, if_pos (by simp [h])]
      simp [h]
    · rw [if_neg h, List.map_cons, setP_keys k b]
      have h2 : ¬ k = p.1 := fun e => h e.symm
      by_cases hk : k ∈ ps.map Prod.fst
      · rw [if_pos hk, if_pos (by simp at hk ⊢; exact .inr hk)]
        rfl
      · rw [if_neg hk, if_neg (by simp at hk ⊢; exact ⟨h2, hk⟩)]
        rfl
theorem setP_nd {k : Int} {b : List UInt8} {ps : List (Int × List UInt8)} (h : (ps.map Prod.fst).Nodup) : ((setP k b ps).map Prod.fst).Nodup := by
  rw [setP_keys]
  split
  · exact h
  · rename_i hk
    exact List.nodup_append.2 ⟨h, by simp, fun a ha c hc => by
      rw [List.mem_singleton.1 hc]
      exact fun e => hk (e ▸ ha)⟩
theorem set_repA {L : List AE} (hn : (L.map AE.id).Nodup) (i : Nat) (hi : i < L.length) (e : AE) (he : e.id = L[i].id) : L.set i e = repA e L := by
  unfold repA
  refine List.ext_getElem (by simp) fun j h1 h2 => ?_
  rw [List.getElem_set, List.getElem_map]
  by_cases hj : i = j
  · subst hj
    rw [if_pos rfl, if_pos he.symm]
  · rw [if_neg hj, if_neg]
    intro e2
    have e2 := e2.trans he
    have := (List.getElem_inj (h₀ := by simpa using h1) (h₁ := by simpa using hi) hn).1 (by simpa using e2)
    exact hj this.symm
theorem take_cutA : ∀ {L : List AE} (hn : (L.map AE.id).Nodup) (i : Nat) (hi : i < L.length), L.take i ++ L.drop (i + 1) = cutA L[i].id L
  | f :: l, hn, 0, _ => by
    have h1 := (List.nodup_cons.1 (by simpa using hn : (f.id :: l.map AE.id).Nodup)).1
    show l = (f :: l).filter (fun q => !decide (q.id = f.id))
    rw [List.filter_cons_of_neg (by simp), eq_comm, List.filter_eq_self]
    intro r hr
    have : r.id ≠ f.id := fun e => h1 (by rw [← e]; exact List.mem_map_of_mem hr)
    simp [this]
  | f :: l, hn, i + 1, hi => by
    have h1 := List.nodup_cons.1 (by simpa using hn : (f.id :: l.map AE.id).Nodup)
    have hi' : i < l.length := by simpa using hi
    have hf : f.id ≠ l[i].id := fun e => h1.1 (by rw [e]; exact List.mem_map_of_mem (List.getElem_mem hi'))
    show f :: (l.take i ++ l.drop (i + 1)) = (f :: l).filter (fun q => !decide (q.id = l[i].id))
    rw [List.filter_cons_of_pos (by simp [hf]), take_cutA h1.2 i hi']
    rfl
theorem repA_ids {e : AE} {L : List AE} : (repA e L).map AE.id = L.map AE.id := by
  unfold repA
  rw [List.map_map]
  refine List.map_congr_left fun f _ => ?_
  simp only [Function.comp_apply]
  split
  · rename_i h; exact h.symm
  · rfl
theorem entA_some {A : List AE} {p : Pt} {e : AE} (h : getA p.id A = some e) : entA A p = e ∧ entL A p = A := by
  unfold entA entL
  rw [h]
  exact ⟨rfl, rfl⟩
theorem entA_none {A : List AE} {p : Pt} (h : getA p.id A = none) : entA A p = ⟨p.id, p.n, []⟩ ∧ entL A p = A ++ [⟨p.id, p.n, []⟩] := by
  unfold entA entL
  rw [h]
  exact ⟨rfl, rfl⟩
/-- The entry with one part more is as entries are. -/
theorem GE.set {e : AE} (h : GE e) {s : List UInt8} (hs : s.length ≤ 1000) (h6 : ¬ s.length ≤ 6) (hn : e.n = (ptS s).n) (hf : ¬ (ptS s).n ≤ (ptS s).place) : GE ⟨e.id, e.n, setP (ptS s).place (ptS s).body e.ps⟩ := by
  obtain ⟨p, hp, _⟩ := place_nat s h6 hf
  refine ⟨⟨h.o.n, fun q hq => ?_⟩, setP_nd h.k, fun q hq => ?_, fun q hq => ?_⟩
  · rcases setP_mem hq with hq | rfl
    · exact h.o.l q hq
    · exact (ptS_ok s hs).2
  · rcases setP_mem hq with hq | rfl
    · exact h.r q hq
    · dsimp only
      omega
  · rcases setP_mem hq with hq | rfl
    · exact h.b q hq
    · show s.drop 6 ≠ []
      intro e
      have := congrArg List.length e
      simp at this
      omega
theorem rput49 (s : List UInt8) (room : Int) {v : Value} {A : List AE} (w : World) (h : SegA w v A) (hg : GA room A) (hs : s.length ≤ 1000) :
    Calls Try.prog 37 #[docJ room v, Str s] w (PutD w v room (putA room A s)) ∧ GA room (putA room A s).A := by
  by_cases h6 : s.length ≤ 6
  · unfold putA
    rw [if_pos h6]
    exact ⟨rput_cut s room w h h6, hg⟩
  by_cases hf : (ptS s).n ≤ (ptS s).place
  · unfold putA
    rw [if_neg h6, if_pos hf]
    exact ⟨rput_form s room w h h6 hs hf, hg⟩
  by_cases he : entE room A (ptS s) ≠ 0
  · have hp : putA room A s = ⟨A, [], false, entE room A (ptS s)⟩ := by
      unfold putA
      rw [if_neg h6, if_neg hf, if_pos he]
    rw [hp]
    refine ⟨?_, hg⟩
    unfold entE at he ⊢
    cases hga : getA (ptS s).id A with
    | none =>
      simp only [hga] at he ⊢
      by_cases hr : room ≤ (A.length : Nat)
      · rw [if_pos hr]
        exact rput_full s room w h h6 hs hg hf hga hr
      · rw [if_neg hr] at he
        exact absurd rfl he
    | some e =>
      simp only [hga] at he ⊢
      by_cases hn : e.n ≠ (ptS s).n
      · rw [if_pos hn]
        exact rput_unlike s room w h h6 hs hg hf ⟨e, hga, .inl hn⟩
      · rw [if_neg hn] at he ⊢
        cases hgp : getP (ptS s).place e.ps with
        | none => simp only [hgp] at he; exact absurd rfl he
        | some u =>
          simp only [hgp] at he ⊢
          by_cases hu : u = (ptS s).body
          · rw [if_pos hu] at he; exact absurd rfl he
          · rw [if_neg hu]
            exact rput_unlike s room w h h6 hs hg hf ⟨e, hga, .inr ⟨u, hgp, hu⟩⟩
  have he0 : entE room A (ptS s) = 0 := by simpa using he
  -- where the entry lies
  obtain ⟨i, hi, hLi, hid, hn, hnd, hge, hlen, hC⟩ : ∃ (i : Nat) (hi : i < (entL A (ptS s)).length), (entL A (ptS s))[i] = entA A (ptS s) ∧ (entA A (ptS s)).id = (ptS s).id ∧ (entA A (ptS s)).n = (ptS s).n ∧ ((entL A (ptS s)).map AE.id).Nodup ∧
      (∀ e ∈ entL A (ptS s), GE e) ∧ ((entL A (ptS s)).length : Int) ≤ room ∧ Calls Try.prog 37 #[docJ room v, Str s] w (PutOk w v room (entL A (ptS s)) i (ptS s)) := by
    unfold entE at he0
    cases hga : getA (ptS s).id A with
    | none =>
      simp only [hga] at he0
      by_cases hr : room ≤ (A.length : Nat)
      · rw [if_pos hr] at he0
        cases he0
      · obtain ⟨h1, h2⟩ := entA_none hga
        rw [h1, h2]
        refine ⟨A.length, by simp, by simp, rfl, rfl, ?_, fun e hm => ?_, by simp; omega, rput_new s room w h h6 hs hg hf hga hr⟩
        · rw [List.map_append]
          refine List.nodup_append.2 ⟨hg.nd, by simp, fun a ha c hc => ?_⟩
          obtain rfl : c = (ptS s).id := by simpa using hc
          intro e
          obtain ⟨f, hf2, hfe⟩ := List.mem_map.1 ha
          exact getA_some ⟨f, hf2, hfe.trans e⟩ hga
        · rcases List.mem_append.1 hm with hm | hm
          · exact hg.g e hm
          · obtain rfl := List.mem_singleton.1 hm
            exact ⟨⟨n_nat s hs, by simp⟩, by simp, by simp, by simp⟩
    | some e =>
      simp only [hga] at he0
      obtain ⟨h1, h2⟩ := entA_some hga
      obtain ⟨hm, hid⟩ := getA_mem hga
      by_cases hn : e.n ≠ (ptS s).n
      · rw [if_pos hn] at he0
        cases he0
      · have hn' : e.n = (ptS s).n := by simpa using hn
        rw [if_neg hn] at he0
        rw [h1, h2]
        obtain ⟨i, hi, hie⟩ := List.getElem_of_mem hm
        refine ⟨i, hi, hie, hid, hn', hg.nd, hg.g, hg.len, rput_found s room w h h6 hs hg hf i hi (by rw [hie]; exact hid) (by rw [hie]; exact hn') ?_⟩
        rw [hie]
        cases hgp : getP (ptS s).place e.ps with
        | none => exact .inl rfl
        | some u =>
          simp only [hgp] at he0
          by_cases hu : u = (ptS s).body
          · exact .inr (by rw [hu])
          · rw [if_neg hu] at he0
            cases he0
  have hG := (hge _ (List.getElem_mem hi)).set hs h6 (by rw [hLi]; exact hn) hf
  have hids : (entL A (ptS s))[i].id = (ptS s).id := by rw [hLi]; exact hid
  have hnew : newA A (ptS s) = ⟨(entL A (ptS s))[i].id, (entL A (ptS s))[i].n, setP (ptS s).place (ptS s).body (entL A (ptS s))[i].ps⟩ := by
    unfold newA
    rw [hids, hLi]
  rw [← hnew] at hG
  obtain ⟨n, hnn, _⟩ := hG.o.n
  have hw := whole_iff (n := n) hG.k (fun p hp => by rw [← hnn]; exact hG.r p hp) hG.b
  have hlo : ¬ (putA room A s).A.length > 256 ∨ True := .inr trivial
  have hput : putA room A s = if ((newA A (ptS s)).ps.length : Int) < (n : Int) then ⟨repA (newA A (ptS s)) (entL A (ptS s)), [], false, 0⟩ else ⟨cutA (ptS s).id (entL A (ptS s)), textF (newA A (ptS s)).ps n, true, 0⟩ := by
    unfold putA
    rw [if_neg h6, if_neg hf, if_neg (by simpa using he0), hnn]
    rfl
  constructor
  · refine hC.mono ?_
    rintro x w' ⟨hi2, n2, hnn2, hcase⟩
    have hn2 : n2 = n := by
      have h1 : (newA A (ptS s)).n = (n2 : Int) := by rw [hnew]; exact hnn2
      omega
    subst hn2
    have hps : setP (ptS s).place (ptS s).body (entL A (ptS s))[i].ps = (newA A (ptS s)).ps := by rw [hnew]
    rw [← hnew, hps] at hcase
    rw [hput]
    rcases hcase with ⟨hall, hd⟩ | ⟨hall, hd⟩
    · rw [if_neg (hw.1 hall), ← hids, ← take_cutA hnd i hi]
      exact hd
    · rw [if_pos (Classical.byContradiction fun h => hall (hw.2 h)), ← set_repA hnd i hi _ (by rw [hnew])]
      exact hd
  · rw [hput]
    split
    · refine ⟨by rw [repA_ids]; exact hnd, fun e he => ?_, by unfold repA; rw [List.length_map]; exact hlen, hg.r0, hg.r1⟩
      obtain ⟨f, hf2, rfl⟩ := List.mem_map.1 he
      split
      · exact hG
      · exact hge f hf2
    · refine ⟨?_, fun e he => hge e (List.mem_filter.1 he).1, ?_, hg.r0, hg.r1⟩
      · exact List.Nodup.sublist ((List.filter_sublist).map _) hnd
      · have := List.length_filter_le (fun f : AE => !decide (f.id = (ptS s).id)) (entL A (ptS s))
        show ((List.filter _ _).length : Int) ≤ room
        omega
end Go.Proofs.Ytgfbhclkpephnaa
