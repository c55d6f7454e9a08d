/-
  Merged: More shards than needed: Shard; shards that are written out (chapter 5). | More shards than needed: plain: what comes back of shards of data (chapter 5). | More shards than needed: texts mixed by a row: the document's (chapter 5). | More shards than needed: the first shards with unlike numbers: the document's (chapter 5). | More shards than needed: Decode: the document's (chapter 5).
-/
import Derived.Test.YtnmlmpffmjhihaaGreatMH
import Derived.StillTailTactics
import Derived.Test.YtnmlmpffmjhihaaGreatMI
import Derived.Test.YtnmlmpffmjhihaaGreatMF
namespace Go.Proofs.YtnmlmpffmjhihaaGreat
open Go.RowKit
set_option linter.unusedVariables false
set_option maxRecDepth 100000
set_option maxHeartbeats 1000000
end Go.Proofs.YtnmlmpffmjhihaaGreat
namespace Go.Proofs.YtnmlmpffmjhihaaGreat
set_option linter.unusedVariables false
set_option maxRecDepth 100000
/-- Numbers, each once, in the order in which they first came. -/
def oneStep (d : List Nat) (a : Nat) : List Nat := if a ∈ d then d else d ++ [a]
def oneN (l : List Nat) : List Nat := l.foldl oneStep []
theorem oneN_snoc (l : List Nat) (a : Nat) : oneN (l ++ [a]) = oneStep (oneN l) a := by
  unfold oneN
  rw [List.foldl_append]
  rfl
theorem one_nodup : ∀ (l d : List Nat), d.Nodup → (l.foldl oneStep d).Nodup
  | [], d, h => h
  | a :: l, d, h => by
    rw [List.foldl_cons]
    refine one_nodup l _ ?_
    unfold oneStep
    by_cases e : a ∈ d
    · rw [if_pos e]; exact h
    · rw [if_neg e, List.nodup_append]
      exact ⟨h, by simp, fun x hx y hy e' => e (by rw [List.mem_singleton] at hy; rw [← hy, ← e']; exact hx)⟩
theorem oneN_nodup (l : List Nat) : (oneN l).Nodup := one_nodup l [] List.nodup_nil
theorem one_mem (n : Nat) : ∀ (l d : List Nat), (∀ a ∈ d, a < n) → (∀ a ∈ l, a < n) → ∀ a ∈ l.foldl oneStep d, a < n
  | [], d, h, _ => h
  | a :: l, d, h, hl => by
    rw [List.foldl_cons]
    refine one_mem n l _ ?_ (fun b hb => hl b (by simp [hb]))
    unfold oneStep
    by_cases e : a ∈ d
    · rw [if_pos e]; exact h
    · rw [if_neg e]
      intro b hb
      rcases List.mem_append.1 hb with hb | hb
      · exact h b hb
      · rw [List.mem_singleton] at hb
        rw [hb]
        exact hl a (by simp)
theorem oneN_lt {n : Nat} {l : List Nat} (h : ∀ a ∈ l, a < n) : ∀ a ∈ oneN l, a < n := one_mem n l [] (by simp) h
theorem one_len : ∀ (l d : List Nat), (l.foldl oneStep d).length ≤ d.length + l.length
  | [], d => by simp
  | a :: l, d => by
    rw [List.foldl_cons]
    have h := one_len l (oneStep d a)
    have h2 : (oneStep d a).length ≤ d.length + 1 := by unfold oneStep; split <;> simp
    simp only [List.length_cons]
    omega
theorem oneN_len (l : List Nat) : (oneN l).length ≤ l.length := by have := one_len l []; simpa [oneN] using this
/-- A shard by its number. -/
def sh5 (F : Nat → List UInt8) (a : Nat) : Sh5 := ((a : Int), F a)
theorem find_sh (F : Nat → List UInt8) : ∀ (d : List Nat) (a : Nat), (d.map (sh5 F)).find? (fun y => y.1 == (a : Int)) = if a ∈ d then some (sh5 F a) else none
  | [], a => by simp
  | b :: d, a => by
    rw [List.map_cons, List.find?_cons]
    by_cases e : b = a
    · subst e
      rw [if_pos (by simp)]
      simp [sh5]
    · have h : ((sh5 F b).1 == (a : Int)) = false := by simp [sh5]; omega
      rw [h, find_sh F d a]
      simp [Ne.symm e]
theorem unlGo_one (F : Nat → List UInt8) (n L0 : Nat) (hL : 1 ≤ L0 ∧ L0 ≤ 1024) (hF : ∀ a, (F a).length = L0) : ∀ (l d : List Nat), (∀ a ∈ l, a < n) →
    unlGo (n : Nat) L0 (d.map (sh5 F)) (l.map (sh5 F)) = ((l.foldl oneStep d).map (sh5 F), 0)
  | [], d, _ => rfl
  | a :: l, d, h => by
    have ha := h a (by simp)
    have h1 : ¬ ((sh5 F a).1 < 0 ∨ (n : Int) ≤ (sh5 F a).1) := by simp [sh5]; omega
    have h2 : ¬ ((sh5 F a).2.length < 1 ∨ 1024 < (sh5 F a).2.length) := by
      have := hF a
      simp only [sh5]
      omega
    have h3 : (sh5 F a).2.length = L0 := hF a
    have h4 := find_sh F d a
    rw [List.map_cons, List.foldl_cons]
    by_cases e : a ∈ d
    · rw [if_pos e] at h4
      rw [unl_old h1 h2 h3 h4 rfl, unlGo_one F n L0 hL hF l d (fun b hb => h b (by simp [hb]))]
      unfold oneStep
      rw [if_pos e]
    · rw [if_neg e] at h4
      have hm : d.map (sh5 F) ++ [sh5 F a] = (d ++ [a]).map (sh5 F) := by simp
      rw [unl_new h1 h2 h3 h4, hm, unlGo_one F n L0 hL hF l _ (fun b hb => h b (by simp [hb]))]
      unfold oneStep
      rw [if_neg e]
theorem shardS_len (k : Nat) (ds : List (List UInt8)) (a : Nat) : (shardS k ds a).length = (ds.headD []).length := by
  unfold shardS mixS
  rw [toS_length, mulSo_length]
  cases ds with
  | nil => rfl
  | cons d ds => simp [wid, tabS, bN_length]
/-- Shards of data: as many as there are unlike ones, and the data, if these are enough. -/
theorem dec_back (ds : List (List UInt8)) (n : Nat) (l : List Nat) (hm : mayS ds (n : Nat) = 0) (hb : ∀ a ∈ l, a < n) :
    decM (ds.length : Nat) (n : Nat) (l.map (sh5 (shardS ds.length ds))) = if (oneN l).length < ds.length then ([], 15) else (ds, 0) := by
  have hck : checkS ds = 0 := by
    unfold mayS at hm
    split at hm
    · rename_i hne; exact absurd hm hne
    · rename_i hne; omega
  have hnn : ¬ ((n : Int) < (ds.length : Int) ∨ 255 < (n : Int)) := fun hx => by
    unfold mayS at hm
    rw [if_neg (by omega), if_pos hx] at hm
    cases hm
  obtain ⟨k1, k2, k3, k4, k5⟩ := checkS_ok hck
  have hbad : ¬ badD (ds.length : Nat) (n : Nat) = true := by simp [badD]; omega
  have hU : unlM (n : Nat) (l.map (sh5 (shardS ds.length ds))) = ((oneN l).map (sh5 (shardS ds.length ds)), 0) := by
    cases l with
    | nil => rfl
    | cons a l =>
      unfold unlM
      have h0 : ((((a :: l).map (sh5 (shardS ds.length ds))).map (·.2)).headD []).length = (ds.headD []).length := by
        simp only [List.map_cons, List.headD_cons]
        exact shardS_len _ _ _
      rw [h0]
      exact unlGo_one _ n _ ⟨k3, k4⟩ (fun a => shardS_len _ _ a) (a :: l) [] hb
  unfold decM
  rw [if_neg hbad, hU, if_neg (by simp)]
  simp only [List.length_map, Int.toNat_natCast, Int.ofNat_lt]
  by_cases hlt : (oneN l).length < ds.length
  · rw [if_pos hlt, if_pos hlt]
  · rw [if_neg hlt, if_neg hlt]
    have h1 : idx5 (((oneN l).map (sh5 (shardS ds.length ds))).take ds.length) = (oneN l).take ds.length := by
      unfold idx5
      rw [← List.map_take, List.map_map]
      conv => rhs; rw [← List.map_id ((oneN l).take ds.length)]
      exact List.map_congr_left (fun a _ => by simp [sh5])
    have h2 : txt5 (((oneN l).map (sh5 (shardS ds.length ds))).take ds.length) = ((oneN l).take ds.length).map (shardS ds.length ds) := by
      unfold txt5
      rw [← List.map_take, List.map_map]
      rfl
    unfold decD
    rw [h1, h2]
    rw [decode_data rfl ⟨k1, by omega⟩ k3 k5 (by rw [List.length_take]; omega) ((oneN_nodup l).sublist (List.take_sublist _ _)) (fun a ha => by
      have := oneN_lt hb a (List.mem_of_mem_take ha)
      omega)]
end Go.Proofs.YtnmlmpffmjhihaaGreat
namespace Go.Proofs.YtnmlmpffmjhihaaGreat
open Go Go.RowKit
set_option linter.unusedVariables false
set_option maxRecDepth 100000
set_option maxHeartbeats 1000000
theorem byte_get5 (m : List UInt8) (k : Nat) (h : k < (⟨m.toArray⟩ : ByteArray).size) : (⟨m.toArray⟩ : ByteArray)[k]'h = m[k]'(show k < m.length from by simpa using (show k < m.toArray.size from h)) := rfl
theorem addL_comm (a b : List Nat) : addL a b = addL b a := by
  unfold addL
  rw [List.zipWith_comm]
  congr 1
  funext x y
  exact Nat.xor_comm _ _
end Go.Proofs.YtnmlmpffmjhihaaGreat
namespace Go.Proofs.YtnmlmpffmjhihaaGreat
open Go.RowKit
set_option linter.unusedVariables false
set_option maxRecDepth 100000
set_option maxHeartbeats 2000000
def freshB (acc : List Sh5) (z : Int) (j : Nat) : Bool := !((acc.take j).any fun y => y.1 == z)
theorem fresh_no {acc : List Sh5} {z z' : Int} {s' : List UInt8} {j : Nat} (hj : j < acc.length) (he : acc[j] = (z', s')) (h : ¬ z' = z) : freshB acc z (j + 1) = freshB acc z j := by
  unfold freshB
  rw [List.take_succ_eq_append_getElem hj, he, List.any_append]
  simp [h]
theorem fresh_yes {acc : List Sh5} {z : Int} {s' : List UInt8} {j : Nat} (hj : j < acc.length) (he : acc[j] = (z, s')) : freshB acc z (j + 1) = false := by
  unfold freshB
  rw [List.take_succ_eq_append_getElem hj, he, List.any_append]
  simp
theorem same_no {acc : List Sh5} {z z' : Int} {s s' : List UInt8} {j : Nat} (hj : j < acc.length) (he : acc[j] = (z', s')) (h : z' = z → s' = s) (hs : ∀ y ∈ acc.take j, y.1 = z → y.2 = s) : ∀ y ∈ acc.take (j + 1), y.1 = z → y.2 = s := fun y hy e => by
  rw [List.take_succ_eq_append_getElem hj, he] at hy
  rcases List.mem_append.1 hy with hy | hy
  · exact hs y hy e
  · rw [List.mem_singleton] at hy
    subst hy
    exact h e
theorem fresh_none {acc : List Sh5} {z : Int} (h : freshB acc z acc.length = true) : acc.find? (fun y => y.1 == z) = none := by
  unfold freshB at h
  rw [List.take_length] at h
  rw [List.find?_eq_none]
  intro y hy e
  have : acc.any (fun y => y.1 == z) = true := List.any_eq_true.2 ⟨y, hy, e⟩
  rw [this] at h
  cases h
theorem fresh_some {acc : List Sh5} {z : Int} {s : List UInt8} (h : freshB acc z acc.length = false) (hs : ∀ y ∈ acc.take acc.length, y.1 = z → y.2 = s) : ∃ y, acc.find? (fun y => y.1 == z) = some y ∧ y.2 = s := by
  unfold freshB at h
  rw [List.take_length] at h hs
  cases hf : acc.find? (fun y => y.1 == z) with
  | none =>
    rw [List.find?_eq_none] at hf
    have : acc.any (fun y => y.1 == z) = false := by rw [List.any_eq_false]; exact fun y hy => hf y hy
    rw [this] at h
    cases h
  | some y => exact ⟨y, rfl, hs y (List.mem_of_find?_eq_some hf) (by simpa using List.find?_some hf)⟩
theorem find_nod {acc : List Sh5} (hn : (acc.map (·.1)).Nodup) {z : Int} {s' : List UInt8} {j : Nat} (hj : j < acc.length) (he : acc[j] = (z, s')) : acc.find? (fun y => y.1 == z) = some (z, s') := by
  rw [← he]
  refine find_hit acc j hj z (fun y hy e => ?_) (by rw [he])
  obtain ⟨m, hm, rfl⟩ := List.mem_iff_getElem.1 hy
  rw [List.length_take] at hm
  rw [List.getElem_take] at e
  have h2 : (acc.map (·.1))[m]'(by simp; omega) = (acc.map (·.1))[j]'(by simpa using hj) := by
    rw [List.getElem_map, List.getElem_map, he]
    exact e
  exact List.pairwise_iff_getElem.1 hn m j (by simp; omega) (by simpa using hj) (by omega) h2
theorem nod_snoc {acc : List Sh5} (hn : (acc.map (·.1)).Nodup) {z : Int} {s : List UInt8} (hf : acc.find? (fun y => y.1 == z) = none) : ((acc ++ [(z, s)]).map (·.1)).Nodup := by
  rw [List.map_append, List.nodup_append]
  refine ⟨hn, by simp, fun a ha b hb e => ?_⟩
  rw [List.map_singleton, List.mem_singleton] at hb
  subst hb
  obtain ⟨y, hy, rfl⟩ := List.mem_map.1 ha
  rw [List.find?_eq_none] at hf
  exact hf y hy (by simpa using e)
end Go.Proofs.YtnmlmpffmjhihaaGreat
namespace Go.Proofs.YtnmlmpffmjhihaaGreat
open Go.RowKit
set_option linter.unusedVariables false
set_option maxRecDepth 100000
set_option maxHeartbeats 2000000
theorem SegM.grown {w w' : World} {base : Nat} {v : Value} {rows : Tab} {r : Option Nat} (h : SegM w base v rows) (hg : w.grownBy w' r) (hn : ∀ g, v.ownBlock = some g → r ≠ some g) (hap : ∀ x ∈ r.toList, Apart 0 w 5 x) : SegM w' base v rows := by
  obtain ⟨vs, h1, h2, h3⟩ := h
  exact ⟨vs, h1, h2.grown hg hn, fun i hi hi' => (h3 i hi hi').only (Only.of_grown hg) hap⟩
theorem dec_row {n : Int} {L : Nat} {k : Nat} {q : List Sh5} (h : Good5 n L q) {j : Nat} (hj : j < q.length) {z : Int} {s : List UInt8} (hz : q[j] = (z, s)) :
    (pickT k (idx5 q)).take (j + 1) = (pickT k (idx5 q)).take j ++ [rowL k z.toNat] := by
  unfold pickT idx5
  have hl : j < ((q.map fun x => x.1.toNat).map (rowL k)).length := by simpa using hj
  rw [List.take_succ_eq_append_getElem hl, List.getElem_map, List.getElem_map, hz]
/-- What holds ahead of each round of the first loop. -/
def RdRel (K : Nat) (q : List Sh5) (w2 : World) (gk : Nat) (vr vt i : Value) (wr : World) : Prop :=
  ∃ j : Nat, j ≤ K ∧ K ≤ j + gk ∧ i = .int .i64 j ∧ Hid (SegM wr w2.heap.size vr ((pickT K (idx5 q)).take j)) ∧ Hid (Seg wr w2.heap.size 9 1 vt j (((txt5 q).take j).map Str)) ∧
    Hid (∀ g, vr.ownBlock = some g → vt.ownBlock ≠ some g) ∧ Hid (Below w2.heap.size w2 wr)
end Go.Proofs.YtnmlmpffmjhihaaGreat
