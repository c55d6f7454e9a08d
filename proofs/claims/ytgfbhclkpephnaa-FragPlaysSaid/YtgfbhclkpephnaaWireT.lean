/-
  Wire: what a reader takes, one behind the other: plain words; the calls in these words (chapter 9).
-/
import Derived.Test.YtgfbhclkpephnaaWireR
namespace Go.Proofs.Ytgfbhclkpephnaa
open Go.RowKit
set_option linter.unusedVariables false
set_option maxRecDepth 100000
/-- A number is taken, then another .. -/
abbrev Tk := List UInt8 × List UInt8 × Int
def nx (t : Tk) (n : Int) : Tk := tk t.2.1 t.2.2 n (badB n)
def nb (t : Tk) (n : Int) : Tk := tk t.2.1 t.2.2 n (decide (n < 0))
theorem tk_err (l : List UInt8) (e n : Int) (b : Bool) (he : e ≠ 0) : tk l e n b = ([], l, e) := by unfold tk; rw [if_pos he]
theorem tk_cases (l : List UInt8) (n : Int) (hn : 0 ≤ n) : ((l.length : Int) < n ∧ tk l 0 n false = ([], l, 4)) ∨ (n ≤ l.length ∧ tk l 0 n false = (l.take n.toNat, l.drop n.toNat, 0)) := by
  unfold tk
  by_cases h : (l.length : Int) < n
  · exact .inl ⟨h, by simp [h]⟩
  · exact .inr ⟨by omega, by simp [h]⟩
/-- No error: the bytes stood at the beginning. -/
theorem nx_ok {t : Tk} {n : Int} (hb : badB n = false) (h : (nx t n).2.2 = 0) : t.2.2 = 0 ∧ t.2.1 = (nx t n).1 ++ (nx t n).2.1 ∧ (nx t n).1.length = n.toNat := by
  obtain ⟨a, l, e⟩ := t
  simp only [nx] at h ⊢
  by_cases he : e = 0
  · subst he
    rw [hb] at h ⊢
    rcases tk_cases l n (bad_pos n hb) with ⟨_, h2⟩ | ⟨h1, h2⟩
    · rw [h2] at h; cases h
    · rw [h2]
      exact ⟨rfl, (List.take_append_drop _ _).symm, by simp; omega⟩
  · rw [tk_err _ _ _ _ he] at h
    exact absurd h he
theorem nb_ok {t : Tk} {n : Int} (h : (nb t n).2.2 = 0) : t.2.2 = 0 ∧ t.2.1 = (nb t n).1 ++ (nb t n).2.1 ∧ (nb t n).1.length = n.toNat := by
  obtain ⟨a, l, e⟩ := t
  simp only [nb] at h ⊢
  by_cases he : e = 0
  · subst he
    by_cases hn : n < 0
    · have : tk l 0 n (decide (n < 0)) = ([], l, 1) := by simp [tk, hn]
      rw [this] at h; cases h
    · rw [show decide (n < 0) = false by simpa using hn] at h ⊢
      rcases tk_cases l n (by omega) with ⟨_, h2⟩ | ⟨h1, h2⟩
      · rw [h2] at h; cases h
      · rw [h2]
        exact ⟨rfl, (List.take_append_drop _ _).symm, by simp; omega⟩
  · rw [tk_err _ _ _ _ he] at h
    exact absurd h he
theorem nx_back (x : List UInt8) (m r : List UInt8) (n : Int) (hb : badB n = false) (hm : (m.length : Int) = n) : nx (x, m ++ r, 0) n = (m, r, 0) := by
  have hn : n.toNat = m.length := by omega
  unfold nx
  rw [hb]
  rcases tk_cases (m ++ r) n (by omega) with ⟨h, _⟩ | ⟨_, h⟩
  · rw [List.length_append] at h; omega
  · simp only
    rw [h, hn, List.take_left' rfl, List.drop_left' rfl]
theorem nb_back (x : List UInt8) (m r : List UInt8) (n : Int) (hm : (m.length : Int) = n) : nb (x, m ++ r, 0) n = (m, r, 0) := by
  have hn : n.toNat = m.length := by omega
  unfold nb
  rw [show decide (n < 0) = false by simp; omega]
  rcases tk_cases (m ++ r) n (by omega) with ⟨h, _⟩ | ⟨_, h⟩
  · rw [List.length_append] at h; omega
  · simp only
    rw [h, hn, List.take_left' rfl, List.drop_left' rfl]
theorem nx_lt (t : Tk) (n : Int) : 0 ≤ unbe (nx t n).1 ∧ unbe (nx t n).1 < 4294967296 := by
  have h1 := unbe_lt (nx t n).1
  have h2 : (nx t n).1.length ≤ 4 := tk_short t.2.1 t.2.2 n
  have h3 : (256 : Int) ^ (nx t n).1.length ≤ 256 ^ 4 := by
    have : (256 : Nat) ^ (nx t n).1.length ≤ 256 ^ 4 := Nat.pow_le_pow_right (by omega) h2
    exact_mod_cast this
  exact ⟨h1.1, by have e : (256 : Int) ^ 4 = 4294967296 := by decide
                  omega⟩
theorem tk_len (l : List UInt8) (e n : Int) (b : Bool) : (tk l e n b).1.length ≤ l.length ∧ (tk l e n b).2.1.length ≤ l.length := by
  unfold tk
  split
  · simp
  · split
    · simp
    · split
      · simp
      · simp; omega
theorem num_t (b : Nat) (t : Tk) (n : Int) (w : World) (hb : Rd w b t.2.1 t.2.2) :
    Calls Try.prog 93 #[.pointer (some ⟨b, 0, none⟩), .int .i64 n] w fun x w' => x = .returned (.int .u32 (unbe (nx t n).1)) ∧ Rd w' b (nx t n).2.1 (nx t n).2.2 ∧ Only [b] w w' := num_any b t.2.1 t.2.2 n w hb
end Go.Proofs.Ytgfbhclkpephnaa
