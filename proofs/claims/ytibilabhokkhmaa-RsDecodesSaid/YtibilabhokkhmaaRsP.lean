/-
  More shards than needed (chapter 5): plain: what is decoded; it is the data that the shards were made of.
-/
import Derived.Test.YtibilabhokkhmaaLinD
namespace Go.Proofs.Ytibilabhokkhmaa
set_option linter.unusedVariables false
def bN (l : List UInt8) : List Nat := l.map UInt8.toNat
def toS (l : List Nat) : List UInt8 := l.map UInt8.ofNat
theorem bN_length (l : List UInt8) : (bN l).length = l.length := by simp [bN]
theorem bN_lt (l : List UInt8) : ∀ x ∈ bN l, x < 256 := fun x hx => by
  obtain ⟨c, _, rfl⟩ := List.mem_map.1 hx
  exact c.toNat_lt
theorem toS_bN (l : List UInt8) : toS (bN l) = l := by
  unfold toS bN
  rw [List.map_map]
  conv => rhs; rw [← List.map_id l]
  exact List.map_congr_left (fun c _ => by simp)
theorem toS_length (l : List Nat) : (toS l).length = l.length := by simp [toS]
theorem bN_toS (l : List Nat) (h : ∀ x ∈ l, x < 256) : bN (toS l) = l := by
  unfold toS bN
  rw [List.map_map]
  conv => rhs; rw [← List.map_id l]
  refine List.map_congr_left (fun x hx => ?_)
  have := h x hx
  simp [Nat.mod_eq_of_lt this]
/-- Texts as a table. -/
def tabS (ts : List (List UInt8)) : Tab := ts.map bN
theorem tabS_length (ts : List (List UInt8)) : (tabS ts).length = ts.length := by simp [tabS]
theorem gd_tabS {ts : List (List UInt8)} {x : Nat} (h : ∀ t ∈ ts, t.length = x) : Gd ts.length x (tabS ts) :=
  ⟨tabS_length ts, fun i hi => by simp only [tabS, List.getElem_map, bN_length]; exact h _ (by simp), fun i hi => by simp only [tabS, List.getElem_map]; exact bN_lt _⟩
/-- Texts mixed by a row. -/
def mixS (row : List Nat) (ts : List (List UInt8)) : List UInt8 := toS (mulSo row (tabS ts) ts.length)
theorem mixS_all (M : Tab) (ts : List (List UInt8)) : M.map (fun r => mixS r ts) = (mulT M (tabS ts)).map toS := by
  unfold mulT mixS
  rw [List.map_map, tabS_length]
  rfl
/-- If M by D is T, T is decoded to D. -/
theorem mul_solve {k x : Nat} {M D : Tab} (hM : Gd k k M) (hk : 1 ≤ k ∧ k ≤ 255) (hx : 1 ≤ x) (hinv : invE M = 0) (hD : Gd k x D) : mulT (invV M) (mulT M D) = D := by
  obtain ⟨_, _, hX, h1, _⟩ := inv_facts hM.all hinv
  rw [hM.len] at hX h1
  have hT := gd_mul hM hD hk.1
  refine Gd.ext (gd_mul hX hT hk.1) hD (fun i j hi hj => ?_)
  rw [ef_mul hX hT hk.1 i j hi hj]
  calc mm k (ef (invV M)) (ef (mulT M D)) i j = mm k (ef (invV M)) (mm k (ef M) (ef D)) i j := mm_congr (fun _ _ => rfl) (fun l hl => ef_mul hM hD hk.1 l j hl hj)
    _ = mm k (mm k (ef (invV M)) (ef M)) (ef D) i j := (mm_assoc _ _ _ _ _ _ _).symm
    _ = mm k idm (ef D) i j := mm_congr (fun l hl => h1 i l hi hl) (fun _ _ => rfl)
    _ = ef D i j := id_mm _ hi
/-- A plain row picks. -/
theorem pick_row {k x : Nat} {D : Tab} (hD : Gd k x D) (hk : 1 ≤ k) (a : Nat) (ha : a < k) : mulSo (rowL k a) D D.length = D.getD a [] := by
  have hw := hD.wid hk
  have hrow := hD.row ha
  have hlen : (rowL k a).length = k := rowL_length k a
  apply List.ext_getElem
  · rw [mulSo_length, hw, hrow.1]
  · intro j h1 h2
    rw [mulSo_length, hw] at h1
    have hlt1 := dotS_lt (rowL k a) D j D.length
    have hlt2 := hrow.2 _ (List.getElem_mem h2)
    have e : (mulSo (rowL k a) D D.length)[j]'(by rw [mulSo_length, hw]; exact h1) = dotS (rowL k a) D j D.length := by simp [mulSo]
    rw [e]
    apply fd_inj hlt1 hlt2
    have hb : ∀ y ∈ rowL k a, y < 256 := fun y hy => by
      obtain ⟨l, _, rfl⟩ := List.mem_map.1 hy
      exact ent_lt _ _ _
    rw [fd_dot _ _ _ hb hD.all, hD.len, sm_one (k := a) ha (fun l hl hne => by
      rw [getD_get _ l 0 (by rw [hlen]; exact hl)]
      simp only [rowL, List.getElem_map, List.getElem_range]
      unfold ent
      rw [if_neg (by omega), if_neg (fun e => hne e.symm)]
      exact Fd.zero_mul _)]
    rw [getD_get _ a 0 (by rw [hlen]; exact ha)]
    simp only [rowL, List.getElem_map, List.getElem_range]
    unfold ent
    rw [if_neg (by omega), if_pos rfl, fd_one, Fd.one_mul]
    unfold ef entM
    rw [getD_get _ j 0 h2]
/-- The shards of data: what a row gives. -/
def shardS (k : Nat) (ds : List (List UInt8)) (a : Nat) : List UInt8 := mixS (rowL k a) ds
theorem shard_plain {k x : Nat} {ds : List (List UInt8)} (hl : ds.length = k) (hk : 1 ≤ k) (hx : ∀ t ∈ ds, t.length = x) (a : Nat) (ha : a < k) : shardS k ds a = ds.getD a [] := by
  have hD := gd_tabS hx
  rw [hl] at hD
  unfold shardS mixS
  rw [← tabS_length, pick_row hD hk a ha]
  rw [getD_get _ a [] (by rw [tabS_length]; omega), getD_get _ a [] (by omega)]
  simp only [tabS, List.getElem_map]
  exact toS_bN _
/-- What is decoded of unlike shards of data is the data. -/
theorem decode_data {k x : Nat} {ds : List (List UInt8)} {at' : List Nat} (hl : ds.length = k) (hk : 1 ≤ k ∧ k ≤ 255) (hx1 : 1 ≤ x) (hx : ∀ t ∈ ds, t.length = x) (ha : at'.length = k) (hn : at'.Nodup) (hb : ∀ a ∈ at', a < 256) :
    (invV (pickT k at')).map (fun r => mixS r (at'.map (shardS k ds))) = ds := by
  have hD := gd_tabS hx
  rw [hl] at hD
  have hM := gd_pick k at'
  rw [ha] at hM
  have hinv := cauchy_inv k at' ha hk.1 hk.2 hn hb
  have hT : tabS (at'.map (shardS k ds)) = mulT (pickT k at') (tabS ds) := by
    unfold tabS mulT pickT
    rw [List.map_map, List.map_map]
    refine List.map_congr_left (fun a _ => ?_)
    show bN (toS (mulSo (rowL k a) (tabS ds) ds.length)) = mulSo (rowL k a) (ds.map bN) (ds.map bN).length
    rw [bN_toS _ (mulSo_lt _ _ _), List.length_map]
    rfl
  rw [mixS_all, hT, mul_solve hM hk hx1 hinv hD]
  unfold tabS
  rw [List.map_map]
  conv => rhs; rw [← List.map_id ds]
  exact List.map_congr_left (fun t _ => toS_bN t)
/-- Data put in place by their numbers. -/
def putP (k : Nat) (xs : List (Nat × List UInt8)) : List (List UInt8) := xs.foldl (fun o x => o.set x.1 x.2) (List.replicate k [])
theorem putP_length (k : Nat) : ∀ (xs : List (Nat × List UInt8)) (o : List (List UInt8)), (xs.foldl (fun o x => o.set x.1 x.2) o).length = o.length
  | [], o => rfl
  | x :: xs, o => by
    show (xs.foldl (fun o x => o.set x.1 x.2) (o.set x.1 x.2)).length = o.length
    rw [putP_length k xs, List.length_set]
theorem putP_far : ∀ (xs : List (Nat × List UInt8)) (o : List (List UInt8)) (a : Nat), (∀ x ∈ xs, x.1 ≠ a) → (xs.foldl (fun o x => o.set x.1 x.2) o)[a]? = o[a]?
  | [], o, a, _ => rfl
  | x :: xs, o, a, h => by
    show (xs.foldl (fun o x => o.set x.1 x.2) (o.set x.1 x.2))[a]? = o[a]?
    rw [putP_far xs _ a (fun y hy => h y (by simp [hy])), List.getElem?_set_ne (h x (by simp))]
theorem putP_get : ∀ (xs : List (Nat × List UInt8)) (o : List (List UInt8)), (xs.map Prod.fst).Nodup → ∀ x ∈ xs, x.1 < o.length → (xs.foldl (fun o x => o.set x.1 x.2) o)[x.1]? = some x.2
  | [], _, _, x, h, _ => by simp at h
  | y :: xs, o, hn, x, h, hl => by
    rw [List.map_cons, List.nodup_cons] at hn
    show (xs.foldl (fun o x => o.set x.1 x.2) (o.set y.1 y.2))[x.1]? = some x.2
    rcases List.mem_cons.1 h with rfl | h
    · rw [putP_far xs _ _ (fun z hz e => hn.1 (by rw [← e]; exact List.mem_map.2 ⟨z, hz, rfl⟩))]
      simp [hl]
    · exact putP_get xs _ hn.2 x h (by rw [List.length_set]; exact hl)
/-- Plain shards, put in place, are what is decoded of them. -/
theorem decode_plain {k x : Nat} {xs : List (Nat × List UInt8)} (hl : xs.length = k) (hk : 1 ≤ k ∧ k ≤ 255) (hx1 : 1 ≤ x) (hx : ∀ t ∈ xs, t.2.length = x) (hn : (xs.map Prod.fst).Nodup) (hb : ∀ t ∈ xs, t.1 < k) :
    (invV (pickT k (xs.map Prod.fst))).map (fun r => mixS r (xs.map Prod.snd)) = putP k xs := by
  have hpl : (putP k xs).length = k := by unfold putP; rw [putP_length k, List.length_replicate]
  have hget : ∀ t ∈ xs, (putP k xs)[t.1]? = some t.2 := fun t ht => putP_get xs _ hn t ht (by rw [List.length_replicate]; exact hb t ht)
  -- each place is taken
  have hall : ∀ a, a < k → ∃ t ∈ xs, t.1 = a := fun a ha => by
    apply Classical.byContradiction
    intro hne
    have h1 := len_le_of_sub (xs.map Prod.fst) ((List.range k).erase a) hn (fun y hy => by
      obtain ⟨t, ht, rfl⟩ := List.mem_map.1 hy
      exact (List.mem_erase_of_ne (fun e => hne ⟨t, ht, e⟩)).2 (List.mem_range.2 (hb t ht)))
    rw [List.length_erase_of_mem (List.mem_range.2 ha), List.length_range, List.length_map] at h1
    omega
  have hlen : ∀ t ∈ putP k xs, t.length = x := fun t ht => by
    obtain ⟨a, ha, rfl⟩ := List.mem_iff_getElem.1 ht
    obtain ⟨u, hu, e⟩ := hall a (by omega)
    have := hget u hu
    rw [e, List.getElem?_eq_getElem ha] at this
    rw [Option.some.inj this]
    exact hx u hu
  have hd := decode_data (at' := xs.map Prod.fst) hpl hk hx1 hlen (by rw [List.length_map]; exact hl) hn (fun a ha => by
    obtain ⟨t, ht, rfl⟩ := List.mem_map.1 ha
    have := hb t ht
    omega)
  have hsh : (xs.map Prod.fst).map (shardS k (putP k xs)) = xs.map Prod.snd := by
    rw [List.map_map]
    refine List.map_congr_left (fun t ht => ?_)
    show shardS k (putP k xs) t.1 = t.2
    rw [shard_plain hpl hk.1 hlen t.1 (hb t ht), List.getD_eq_getElem?_getD, hget t ht]
    rfl
  rw [hsh] at hd
  exact hd
end Go.Proofs.Ytibilabhokkhmaa
