/-
  Blocks out of shards: plain (chapter 20).
-/
import Derived.Test.YtelpkddgcmikfaaDoorML
import Derived.Test.YtelpkddgcmikfaaDoorMJ
namespace Go.Proofs.YtelpkddgcmikfaaDoor
set_option linter.unusedVariables false
set_option maxRecDepth 100000
theorem flat_bd2 (m : Nat) : ∀ T : List (List UInt8), (∀ t ∈ T, t.length ≤ m) → T.flatten.length ≤ T.length * m
  | [], _ => by simp
  | t :: T, h => by
    have h1 := h t (by simp)
    have h2 := flat_bd2 m T (fun x hx => h x (by simp [hx]))
    rw [List.flatten_cons, List.length_append, List.length_cons, Nat.succ_mul]
    omega
theorem mixS_len (r : List Nat) {ts : List (List UInt8)} {L : Nat} (h : ∀ t ∈ ts, t.length = L) : (mixS r ts).length ≤ L := by
  unfold mixS
  rw [toS_length, mulSo_length]
  cases ts with
  | nil => simp [wid, tabS]
  | cons t ts => simp [wid, tabS, bN_length]; exact Nat.le_of_eq (h t (by simp))
theorem dec_bound (k n : Int) (xs : List Sh5) : (decM k n xs).1.length ≤ 32 ∧ (decM k n xs).1.flatten.length ≤ 32768 := by
  unfold decM
  by_cases h1 : badD k n = true
  · rw [if_pos h1]; simp
  · rw [if_neg h1]
    by_cases h2 : (unlM n xs).2 ≠ 0
    · rw [if_pos h2]; simp
    · rw [if_neg h2]
      by_cases h3 : ((unlM n xs).1.length : Int) < k
      · rw [if_pos h3]; simp
      · rw [if_neg h3]
        simp only [badD, Bool.or_eq_true, decide_eq_true_eq] at h1
        have h0 : (unlM n xs).2 = 0 := by omega
        obtain ⟨L0, hg2, hpos2⟩ : ∃ L0, Good5 n L0 (unlM n xs).1 ∧ ∀ x ∈ (unlM n xs).1, 1 ≤ x.2.length ∧ x.2.length ≤ 1024 := ⟨_, unl_good xs [] ⟨by simp, by simp, by simp⟩ h0, unl_pos xs [] (by simp) h0⟩
        have hq := hg2.take k.toNat
        have hql : ((unlM n xs).1.take k.toNat).length = k.toNat := by rw [List.length_take]; omega
        have hL : L0 ≤ 1024 := by
          have hp : 0 < (unlM n xs).1.length := by omega
          have e1 := hg2.len _ (List.getElem_mem hp)
          have e2 := (hpos2 _ (List.getElem_mem hp)).2
          omega
        have hinv := dec_inv hq (by omega) (by omega) (by omega) hql
        obtain ⟨_, _, hX, _, _⟩ := inv_facts (gd_pick k.toNat (idx5 ((unlM n xs).1.take k.toNat))).all hinv
        have hpl : (pickT k.toNat (idx5 ((unlM n xs).1.take k.toNat))).length = k.toNat := by
          unfold pickT idx5
          rw [List.length_map, List.length_map]
          exact hql
        have hXl := hX.len
        rw [hpl] at hXl
        have hl : (decD k.toNat ((unlM n xs).1.take k.toNat)).length = k.toNat := by unfold decD; rw [List.length_map]; exact hXl
        show (decD k.toNat ((unlM n xs).1.take k.toNat)).length ≤ 32 ∧ (decD k.toNat ((unlM n xs).1.take k.toNat)).flatten.length ≤ 32768
        refine ⟨by rw [hl]; omega, ?_⟩
        have hb := flat_bd2 1024 (decD k.toNat ((unlM n xs).1.take k.toNat)) (fun t ht => by
          unfold decD at ht
          obtain ⟨r, _, rfl⟩ := List.mem_map.1 ht
          have := mixS_len r (ts := txt5 ((unlM n xs).1.take k.toNat)) (L := L0) (fun t ht => by
            obtain ⟨x, hx, rfl⟩ := List.mem_map.1 ht
            exact hq.len x hx)
          omega)
        rw [hl] at hb
        have : k.toNat * 1024 ≤ 32 * 1024 := Nat.mul_le_mul_right _ (by omega)
        omega
/-- What becomes of a job: the text, the error. -/
def doD (k n len : Int) (xs : List Sh5) : List UInt8 × Int := if (decM k n xs).2 ≠ 0 then ([], (decM k n xs).2) else joinC (decM k n xs).1 len
theorem joinC_bad {ts : List (List UInt8)} {len : Int} (h : (joinC ts len).2 ≠ 0) : (joinC ts len).1 = [] := by
  unfold joinC at *
  by_cases h1 : ts = []
  · rw [if_pos h1]
  · rw [if_neg h1] at h ⊢
    by_cases h2 : (ts.any fun t => decide (t.length ≠ (ts.headD []).length)) = true
    · rw [if_pos h2]
    · rw [if_neg h2] at h ⊢
      by_cases h3 : len < 0 ∨ len > (ts.flatten.length : Int)
      · rw [if_pos h3]
      · rw [if_neg h3] at h ⊢
        by_cases h4 : (ts.flatten.drop len.toNat).all (· == 0) = true
        · rw [if_pos h4] at h
          exact absurd rfl h
        · rw [if_neg h4]
theorem doD_bad {k n len : Int} {xs : List Sh5} (h : (doD k n len xs).2 ≠ 0) : (doD k n len xs).1 = [] := by
  unfold doD at *
  split
  · rfl
  · rename_i h1
    rw [if_neg h1] at h
    exact joinC_bad h
/-- The shards of a text: the error; the shards; how many are data. -/
def shE (s : List UInt8) (k rep : Int) : Int := if k < 1 ∨ 32 < k ∨ rep < 0 ∨ 255 - k < rep then 1 else if s = [] ∨ k * 1024 < (s.length : Int) then 3 else 0
def shM (s : List UInt8) (k : Int) : Nat := min k.toNat s.length
def shT (s : List UInt8) (k rep : Int) : List (List UInt8) := if shE s k rep = 0 then encS (cutT s (shM s k : Nat)) ((shM s k : Nat) + rep) else []
theorem shE_zero {s : List UInt8} {k rep : Int} (h : shE s k rep = 0) : (1 ≤ k ∧ k ≤ 32 ∧ 0 ≤ rep ∧ rep ≤ 255 - k) ∧ 0 < s.length ∧ (s.length : Int) ≤ k * 1024 := by
  unfold shE at h
  by_cases h1 : k < 1 ∨ 32 < k ∨ rep < 0 ∨ 255 - k < rep
  · rw [if_pos h1] at h; cases h
  · rw [if_neg h1] at h
    by_cases h2 : s = [] ∨ k * 1024 < (s.length : Int)
    · rw [if_pos h2] at h; cases h
    · have h3 : ¬ s = [] := fun e => h2 (.inl e)
      have h4 : 0 < s.length := List.length_pos_iff.2 h3
      omega
theorem sh_cut {s : List UInt8} {k rep : Int} (h : shE s k rep = 0) : 1 ≤ shM s k ∧ shM s k ≤ 32 ∧ ((shM s k : Nat) : Int) + rep ≤ 255 ∧ s.length ≤ shM s k * 1024 ∧ cutE s (shM s k : Nat) = 0 := by
  obtain ⟨h1, h2, h3⟩ := shE_zero h
  have hm : shM s k = min k.toNat s.length := rfl
  have hle : s.length ≤ shM s k * 1024 := by omega
  refine ⟨by omega, by omega, by omega, hle, ?_⟩
  unfold cutE
  rw [if_neg (by omega), if_neg (by
    rintro (e | e)
    · rw [e] at h2; simp at h2
    · omega)]
theorem parts_len (s : List UInt8) (n k : Nat) : (partsC s n k).length = k := by simp [partsC]
theorem sh_may {s : List UInt8} {k rep : Int} (h : shE s k rep = 0) : ∃ n : Nat, cutT s (shM s k : Nat) = partsC s n (shM s k) ∧ s.length ≤ n * shM s k ∧ n ≤ 1024 ∧ 1 ≤ n ∧ mayS (cutT s (shM s k : Nat)) ((shM s k : Nat) + rep) = 0 := by
  obtain ⟨h1, h2, h3, h4, h5⟩ := sh_cut h
  obtain ⟨h6, h7, h8⟩ := shE_zero h
  obtain ⟨n, e1, e2, e3, e4⟩ := size_facts s.length (shM s k) h1 h2 h7 h4
  have e : cutT s (shM s k : Nat) = partsC s n (shM s k) := by
    unfold cutT
    rw [if_pos h5, e1]
    simp
  refine ⟨n, e, e2, e3, e4, ?_⟩
  have hl : (partsC s n (shM s k)).length = shM s k := parts_len _ _ _
  have hh : ((partsC s n (shM s k)).headD []).length = n := by
    cases hp : partsC s n (shM s k) with
    | nil => rw [hp] at hl; simp at hl; omega
    | cons t ts =>
      have : t ∈ partsC s n (shM s k) := by rw [hp]; simp
      unfold partsC at this
      obtain ⟨i, _, rfl⟩ := List.mem_map.1 this
      exact part_length s n i
  have hck : checkS (partsC s n (shM s k)) = 0 := by
    have ha := parts_any s n (shM s k) h1
    unfold checkS
    simp only [hl, hh]
    rw [if_neg (by omega), if_neg (by omega), if_neg (by
      intro hx
      simp only [List.any_eq_true, decide_eq_true_eq] at hx
      obtain ⟨t, ht, hne⟩ := hx
      unfold partsC at ht
      obtain ⟨i, _, rfl⟩ := List.mem_map.1 ht
      exact hne (part_length s n i))]
  rw [e]
  unfold mayS
  rw [if_neg (by omega), hl, if_neg (by omega)]
end Go.Proofs.YtelpkddgcmikfaaDoor
