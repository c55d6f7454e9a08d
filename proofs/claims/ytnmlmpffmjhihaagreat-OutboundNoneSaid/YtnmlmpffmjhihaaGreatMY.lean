/-
  Merged: Blocks out of shards: plain (chapter 20). | Blocks out of shards: a text's shards: the program's (chapter 20).
-/
import Derived.Test.YtnmlmpffmjhihaaGreatML
import Derived.Test.YtnmlmpffmjhihaaGreatMJ
namespace Go.Proofs.YtnmlmpffmjhihaaGreat
set_option linter.unusedVariables false
set_option maxRecDepth 100000
theorem flat_bd2 (m : Nat) : ∀ T : List (List UInt8), (∀ t ∈ T, t.length ≤ m) → T.flatten.length ≤ T.length * m
  | [], _ => by simp
  | t :: T, h => by
    have h1 := h t (by simp)
    have h2 := flat_bd2 m T (fun x hx => h x (by simp [hx]))
    rw [List.flatten_cons, List.length_append, List.length_cons, Nat.succ_mul]
    omega
theorem mixS_len (r : List Nat) {ts : List (List UInt8)} {L : Nat} (h : ∀ t ∈ ts, t.length = L) : (mixS r ts).length ≤ L := by
  unfold mixS
  rw [toS_length, mulSo_length]
  cases ts with
  | nil => simp [wid, tabS]
  | cons t ts => simp [wid, tabS, bN_length]; exact Nat.le_of_eq (h t (by simp))
theorem dec_bound (k n : Int) (xs : List Sh5) : (decM k n xs).1.length ≤ 32 ∧ (decM k n xs).1.flatten.length ≤ 32768 := by
  unfold decM
  by_cases h1 : badD k n = true
  · rw [if_pos h1]; simp
  · rw [if_neg h1]
    by_cases h2 : (unlM n xs).2 ≠ 0
    · rw [if_pos h2]; simp
    · rw [if_neg h2]
      by_cases h3 : ((unlM n xs).1.length : Int) < k
      · rw [if_pos h3]; simp
      · rw [if_neg h3]
        simp only [badD, Bool.or_eq_true, decide_eq_true_eq] at h1
        have h0 : (unlM n xs).2 = 0 := by omega
        obtain ⟨L0, hg2, hpos2⟩ : ∃ L0, Good5 n L0 (unlM n xs).1 ∧ ∀ x ∈ (unlM n xs).1, 1 ≤ x.2.length ∧ x.2.length ≤ 1024 := ⟨_, unl_good xs [] ⟨by simp, by simp, by simp⟩ h0, unl_pos xs [] (by simp) h0⟩
        have hq := hg2.take k.toNat
        have hql : ((unlM n xs).1.take k.toNat).length = k.toNat := by rw [List.length_take]; omega
        have hL : L0 ≤ 1024 := by
          have hp : 0 < (unlM n xs).1.length := by omega
          have e1 := hg2.len _ (List.getElem_mem hp)
          have e2 := (hpos2 _ (List.getElem_mem hp)).2
          omega
        have hinv := dec_inv hq (by omega) (by omega) (by omega) hql
        obtain ⟨_, _, hX, _, _⟩ := inv_facts (gd_pick k.toNat (idx5 ((unlM n xs).1.take k.toNat))).all hinv
        have hpl : (pickT k.toNat (idx5 ((unlM n xs).1.take k.toNat))).length = k.toNat := by
          unfold pickT idx5
          rw [List.length_map, List.length_map]
          exact hql
        have hXl := hX.len
        rw [hpl] at hXl
        have hl : (decD k.toNat ((unlM n xs).1.take k.toNat)).length = k.toNat := by unfold decD; rw [List.length_map]; exact hXl
        show (decD k.toNat ((unlM n xs).1.take k.toNat)).length ≤ 32 ∧ (decD k.toNat ((unlM n xs).1.take k.toNat)).flatten.length ≤ 32768
        refine ⟨by rw [hl]; omega, ?_⟩
        have hb := flat_bd2 1024 (decD k.toNat ((unlM n xs).1.take k.toNat)) (fun t ht => by
          unfold decD at ht
          obtain ⟨r, _, rfl⟩ := List.mem_map.1 ht
          have := mixS_len r (ts := txt5 ((unlM n xs).1.take k.toNat)) (L := L0) (fun t ht => by
            obtain ⟨x, hx, rfl⟩ := List.mem_map.1 ht
            exact hq.len x hx)
          omega)
        rw [hl] at hb
        have : k.toNat * 1024 ≤ 32 * 1024 := Nat.mul_le_mul_right _ (by omega)
        omega
/-- What becomes of a job: the text, the error. -/
def doD (k n len : Int) (xs : List Sh5) : List UInt8 × Int := if (decM k n xs).2 ≠ 0 then ([], (decM k n xs).2) else joinC (decM k n xs).1 len
theorem joinC_bad {ts : List (List UInt8)} {len : Int} (h : (joinC ts len).2 ≠ 0) : (joinC ts len).1 = [] := by
  unfold joinC at *
  by_cases h1 : ts = []
  · rw [if_pos h1]
  · rw [if_neg h1] at h ⊢
    by_cases h2 : (ts.any fun t => decide (t.length ≠ (ts.headD []).length)) = true
    · rw [if_pos h2]
    · rw [if_neg h2] at h ⊢
      by_cases h3 : len < 0 ∨ len > (ts.flatten.length : Int)
      · rw [if_pos h3]
      · rw [if_neg h3] at h ⊢
        by_cases h4 : (ts.flatten.drop len.toNat).all (· == 0) = true
        · rw [if_pos h4] at h
          exact absurd rfl h
        · rw [if_neg h4]
theorem doD_bad {k n len : Int} {xs : List Sh5} (h : (doD k n len xs).2 ≠ 0) : (doD k n len xs).1 = [] := by
  unfold doD at *
  split
  · rfl
  · rename_i h1
    rw [if_neg h1] at h
    exact joinC_bad h
/-- The shards of a text: the error; the shards; how many are data. -/
def dsE (s : List UInt8) (k rep : Int) : Int := if k < 1 ∨ 32 < k ∨ rep < 0 ∨ 255 - k < rep then 1 else if s = [] ∨ k * 1024 < (s.length : Int) then 3 else 0
def shM (s : List UInt8) (k : Int) : Nat := min k.toNat s.length
def shT (s : List UInt8) (k rep : Int) : List (List UInt8) := if dsE s k rep = 0 then encS (cutT s (shM s k : Nat)) ((shM s k : Nat) + rep) else []
theorem dsE_zero {s : List UInt8} {k rep : Int} (h : dsE s k rep = 0) : (1 ≤ k ∧ k ≤ 32 ∧ 0 ≤ rep ∧ rep ≤ 255 - k) ∧ 0 < s.length ∧ (s.length : Int) ≤ k * 1024 := by
  unfold dsE at h
  by_cases h1 : k < 1 ∨ 32 < k ∨ rep < 0 ∨ 255 - k < rep
  · rw [if_pos h1] at h; cases h
  · rw [if_neg h1] at h
    by_cases h2 : s = [] ∨ k * 1024 < (s.length : Int)
    · rw [if_pos h2] at h; cases h
    · have h3 : ¬ s = [] := fun e => h2 (.inl e)
      have h4 : 0 < s.length := List.length_pos_iff.2 h3
      omega
theorem sh_cut {s : List UInt8} {k rep : Int} (h : dsE s k rep = 0) : 1 ≤ shM s k ∧ shM s k ≤ 32 ∧ ((shM s k : Nat) : Int) + rep ≤ 255 ∧ s.length ≤ shM s k * 1024 ∧ cutE s (shM s k : Nat) = 0 := by
  obtain ⟨h1, h2, h3⟩ := dsE_zero h
  have hm : shM s k = min k.toNat s.length := rfl
  have hle : s.length ≤ shM s k * 1024 := by omega
  refine ⟨by omega, by omega, by omega, hle, ?_⟩
  unfold cutE
  rw [if_neg (by omega), if_neg (by
    rintro (e | e)
    · rw [e] at h2; simp at h2
    · omega)]
theorem parts_len (s : List UInt8) (n k : Nat) : (partsC s n k).length = k := by simp [partsC]
theorem sh_may {s : List UInt8} {k rep : Int} (h : dsE s k rep = 0) : ∃ n : Nat, cutT s (shM s k : Nat) = partsC s n (shM s k) ∧ s.length ≤ n * shM s k ∧ n ≤ 1024 ∧ 1 ≤ n ∧ mayS (cutT s (shM s k : Nat)) ((shM s k : Nat) + rep) = 0 := by
  obtain ⟨h1, h2, h3, h4, h5⟩ := sh_cut h
  obtain ⟨h6, h7, h8⟩ := dsE_zero h
  obtain ⟨n, e1, e2, e3, e4⟩ := size_facts s.length (shM s k) h1 h2 h7 h4
  have e : cutT s (shM s k : Nat) = partsC s n (shM s k) := by
    unfold cutT
    rw [if_pos h5, e1]
    simp
  refine ⟨n, e, e2, e3, e4, ?_⟩
  have hl : (partsC s n (shM s k)).length = shM s k := parts_len _ _ _
  have hh : ((partsC s n (shM s k)).headD []).length = n := by
    cases hp : partsC s n (shM s k) with
    | nil => rw [hp] at hl; simp at hl; omega
    | cons t ts =>
      have : t ∈ partsC s n (shM s k) := by rw [hp]; simp
      unfold partsC at this
      obtain ⟨i, _, rfl⟩ := List.mem_map.1 this
      exact part_length s n i
  have hck : checkS (partsC s n (shM s k)) = 0 := by
    have ha := parts_any s n (shM s k) h1
    unfold checkS
    simp only [hl, hh]
    rw [if_neg (by omega), if_neg (by omega), if_neg (by
      intro hx
      simp only [List.any_eq_true, decide_eq_true_eq] at hx
      obtain ⟨t, ht, hne⟩ := hx
      unfold partsC at ht
      obtain ⟨i, _, rfl⟩ := List.mem_map.1 ht
      exact hne (part_length s n i))]
  rw [e]
  unfold mayS
  rw [if_neg (by omega), hl, if_neg (by omega)]
end Go.Proofs.YtnmlmpffmjhihaaGreat
namespace Go.Proofs.YtnmlmpffmjhihaaGreat
open Go.RowKit
set_option linter.unusedVariables false
set_option maxRecDepth 100000
set_option maxHeartbeats 1000000
def ShPost (s : List UInt8) (k rep : Int) (w : World) (e : Ending) (w' : World) : Prop := ∃ v, e = .returned (.tuple #[v, .int .i64 ((if dsE s k rep = 0 then shM s k else 0 : Nat) : Int), .int .i64 (dsE s k rep)]) ∧ SlAt 0 w' 9 v ((shT s k rep).map Str) ∧ Below w.heap.size w w'
theorem ShPost.no {s : List UInt8} {k rep z : Int} {w w' : World} {e : Ending} (h : dsE s k rep = z) (hz : z ≠ 0) (he : e = .returned (.tuple #[.slice none 0 0, .int .i64 0, .int .i64 z])) (hw : w' = w) : ShPost s k rep w e w' := by
  subst he hw
  refine ⟨_, by rw [if_neg (by omega), h]; rfl, ?_, Below.refl _ _⟩
  unfold shT
  rw [if_neg (by omega)]
  exact SlAt.nil _ _ _
theorem ShPost.ok {s : List UInt8} {k rep : Int} {w w' : World} {v : Value} (h : dsE s k rep = 0) (hv : SlAt 0 w' 9 v ((encS (cutT s (shM s k : Nat)) ((shM s k : Nat) + rep)).map Str)) (hb : Below w.heap.size w w') : ShPost s k rep w (.returned (.tuple #[v, .int .i64 ((shM s k : Nat) : Int), .int .i64 0])) w' := by
  refine ⟨v, by rw [if_pos h, h], ?_, hb⟩
  unfold shT
  rw [if_pos h]
  exact hv
theorem shards_any (s : List UInt8) (k rep : Int) (hs : s.length ≤ 9223372036854775807) (hk : -9223372036854775808 ≤ k ∧ k ≤ 9223372036854775807) (hr : -9223372036854775808 ≤ rep ∧ rep ≤ 9223372036854775807) (w : World) :
    Calls Tryz.prog 38 #[Str s, .int .i64 k, .int .i64 rep] w (ShPost s k rep w) := by
  by_cases h1 : k < 1 ∨ 32 < k ∨ rep < 0 ∨ 255 - k < rep
  · have e1 : dsE s k rep = 1 := by unfold dsE; rw [if_pos h1]
    refine Calls.mono (R := fun e w' => e = .returned (.tuple #[.slice none 0 0, .int .i64 0, .int .i64 1]) ∧ w' = w) ?_ (fun e w' h => ShPost.no e1 (by decide) h.1 h.2)
    clear e1
    by_cases c1 : k < 1
    · clear h1
      go_enter Tryz.func38, Tryz.ntmps38
      go_wp2_with fail
      go_ret3
      exact ⟨rfl, rfl⟩
    · by_cases c2 : 32 < k
      · clear h1
        go_enter Tryz.func38, Tryz.ntmps38
        go_wp2_with fail
        go_ret3
        exact ⟨rfl, rfl⟩
      · by_cases c3 : rep < 0
        · clear h1
          go_enter Tryz.func38, Tryz.ntmps38
          go_wp2_with fail
          go_ret3
          exact ⟨rfl, rfl⟩
        · have c4 : 255 - k < rep := by omega
          have c5 : wrap64 (255 - k) = 255 - k := IntWalk.wrap64_in _ (by omega)
          clear h1
          go_enter Tryz.func38, Tryz.ntmps38
          go_wp2_with fail
          go_ret3
          exact ⟨rfl, rfl⟩
  · obtain ⟨K, rfl⟩ : ∃ K : Nat, k = K := ⟨k.toNat, by omega⟩
    obtain ⟨P, rfl⟩ : ∃ P : Nat, rep = P := ⟨rep.toNat, by omega⟩
    have c1 : ¬ (K : Int) < 1 := by omega
    have c2 : ¬ (32 : Int) < (K : Int) := by omega
    have c3 : ¬ (P : Int) < 0 := by omega
    have c4 : ¬ 255 - (K : Int) < (P : Int) := by omega
    have c5 : wrap64 (255 - (K : Int)) = 255 - (K : Int) := IntWalk.wrap64_in _ (by omega)
    have c6 : wrap64 ((K : Int) * 1024) = (K : Int) * 1024 := IntWalk.wrap64_in _ (by omega)
    have c7 : wrap64 (1024 * (K : Int)) = 1024 * (K : Int) := IntWalk.wrap64_in _ (by omega)
    by_cases h2 : s = [] ∨ (K : Int) * 1024 < (s.length : Int)
    · have e1 : dsE s K P = 3 := by unfold dsE; rw [if_neg h1, if_pos h2]
      refine Calls.mono (R := fun e w' => e = .returned (.tuple #[.slice none 0 0, .int .i64 0, .int .i64 3]) ∧ w' = w) ?_ (fun e w' h => ShPost.no e1 (by decide) h.1 h.2)
      clear e1
      by_cases h3 : s = []
      · subst h3
        clear h1 h2
        go_enter Tryz.func38, Tryz.ntmps38
        go_wp2_with fail
        go_ret3
        exact ⟨rfl, rfl⟩
      · have h4 : s.isEmpty = false := by simpa using h3
        have h6 : 0 < s.length := List.length_pos_iff.2 h3
        have h7 : ¬ (s.length : Int) < 1 := by omega
        have h5 : (K : Int) * 1024 < (s.length : Int) := h2.resolve_left h3
        have h8 : 1024 * (K : Int) < (s.length : Int) := by omega
        clear h1 h2 h3
        go_enter Tryz.func38, Tryz.ntmps38
        go_wp2_with fail
        go_ret3
        exact ⟨rfl, rfl⟩
    · have e1 : dsE s K P = 0 := by unfold dsE; rw [if_neg h1, if_neg h2]
      have h3 : s ≠ [] := fun e => h2 (.inl e)
      have h4 : s.isEmpty = false := by simpa using h3
      have h6 : 0 < s.length := List.length_pos_iff.2 h3
      have h5 : ¬ (K : Int) * 1024 < (s.length : Int) := fun e => h2 (.inr e)
      have h7 : ¬ (s.length : Int) < 1 := by omega
      have h8 : ¬ 1024 * (K : Int) < (s.length : Int) := by omega
      obtain ⟨q1, q2, q3, q4, q5⟩ := sh_cut e1
      obtain ⟨n, q6, q7, q8, q9, q10⟩ := sh_may e1
      have HOK := Lib.hid (fun (w' : World) (v : Value) (h : SlAt 0 w' 9 v ((encS (cutT s (shM s K : Nat)) ((shM s K : Nat) + P)).map Str)) (hb : Below w.heap.size w w') => ShPost.ok (w := w) e1 h hb)
      have HCUT := Lib.hid (cut_c s (shM s K : Nat) (by omega) w)
      rw [q5] at HCUT
      have HENC := Lib.hid (fun (v : Value) (w' : World) (h : SlAt 0 w' 9 v ((cutT s (shM s K : Nat)).map Str)) => encode_any 0 v _ ((shM s K : Nat) + P) w' h)
      rw [q10] at HENC
      have hmn : shM s K = min K s.length := by unfold shM; simp
      have hsum : ((shM s K : Nat) : Int) + (P : Int) ≤ 1000 := by omega
      have HL6 := Lib.hid (And.intro h6 h3)
      clear h1 h2 e1 h3 q1 q2 q3 q4 q5 q6 q7 q8 q9 q10
      go_enter Tryz.func38, Tryz.ntmps38
      go_upto_region 5 with fail
      go_cut [9] (fun v9 wx => v9 = .int .i64 ((shM s K : Nat) : Int) ∧ wx = w)
      case first =>
        go_wp2_with fail
        all_goals
          go_meet
          refine ⟨?_, rfl⟩
          rw [hmn]
          congr 1
          omega
      case rest =>
        obtain ⟨rfl, rfl⟩ := hcut
        clear hmn
        generalize shM s K = M at *
        generalize cutT s (M : Nat) = CT at *
        go_wp2_with fail
        refine HCUT.out.mono ?_
        rintro e w1 ⟨v1, rfl, hv1, hb1⟩
        have HE1 := Lib.hid (HENC.out _ _ hv1)
        obtain ⟨a1, p1, rfl, _⟩ := strs_at hv1
        have HB1 := Lib.hid hb1
        clear hv1 hb1
        go_wp2_with fail
        refine HE1.out.mono ?_
        rintro e w2 ⟨v2, rfl, hv2, hb2⟩
        have HF := Lib.hid (HOK.out _ _ hv2 (Below.chain hb2 HB1.out))
        obtain ⟨a2, p2, rfl, _⟩ := strs_at hv2
        clear hv2 hb2
        go_wp2_with fail
        go_ret3
        exact HF.out
end Go.Proofs.YtnmlmpffmjhihaaGreat
