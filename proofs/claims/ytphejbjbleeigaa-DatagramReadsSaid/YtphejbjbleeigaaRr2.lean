/-
  Datagrams: the document's answer: what is behind the head, as the plain law says (chapter 10).
-/
import Derived.Test.YtphejbjbleeigaaRr1
namespace Go.Proofs.Ytphejbjbleeigaa
open Go.RowKit
set_option linter.unusedVariables false
set_option maxRecDepth 100000
set_option maxHeartbeats 1000000
theorem rnum_q (t : Tk) (n : Int) (hl : t.2.1.length ≤ 9223372036854775807) (w : World) : Calls Try.prog 68 #[.agg #[Str t.2.1, .int .i64 t.2.2], .int .i64 n] w (RetB (.tuple #[.agg #[Str (nx t n).2.1, .int .i64 (nx t n).2.2], .int .u32 (unbe (nx t n).1)]) w) :=
  (rnum_any t.2.1 t.2.2 n hl w).mono fun e w' h => ⟨h.1, h.2⟩
theorem rbytes_q (t : Tk) (n : Int) (hl : t.2.1.length ≤ 9223372036854775807) (w : World) : Calls Try.prog 109 #[.agg #[Str t.2.1, .int .i64 t.2.2], .int .i64 n] w (RetB (.tuple #[.agg #[Str (nb t n).2.1, .int .i64 (nb t n).2.2], Str (nb t n).1]) w) :=
  (rbytes_any t.2.1 t.2.2 n hl w).mono fun e w' h => ⟨h.1, h.2⟩
theorem nx_le {t : Tk} (n : Int) {B : Nat} (h : t.2.1.length ≤ B) : (nx t n).2.1.length ≤ B := Nat.le_trans (tk_len _ _ _ _).2 h
theorem s4_cut (l : List UInt8) (h : l.length < 5) : (s4 l).2.2 = 4 := by
  have h5 := s5_cut l h
  unfold s5 at h5
  generalize s4 l = t at *
  obtain ⟨x, m, e⟩ := t
  simp only at *
  by_cases he : e = 0
  · subst he
    have := nb_back x m [] m.length rfl
    rw [List.append_nil] at this
    rw [this] at h5
    cases h5
  · unfold nb at h5
    simp only at h5
    rw [tk_err _ _ _ _ he] at h5
    exact h5
abbrev hd0 (kind stream block : Int) : Dg := ⟨kind, stream, block, 0, 0, 0, 0, 0, [], []⟩
theorem fields_1 (stream block : Int) (l : List UInt8) (hl : l.length ≤ 9223372036854775807) : ∃ z q d', (∀ w, Calls Try.prog 69 #[.agg #[Str l, .int .i64 0], (hd0 1 stream block).val] w (FldR z q (Dg.val d') w)) ∧ RdK (hd0 1 stream block) l d' z q := by
  by_cases h5 : l.length < 5
  · have L1 : (s1 l).2.1.length ≤ 9223372036854775807 := nx_le (t := t0 l) 1 hl
    have L2 : (s2 l).2.1.length ≤ 9223372036854775807 := nx_le 1 L1
    have L3 : (s3 l).2.1.length ≤ 9223372036854775807 := nx_le 1 L2
    have g1 := nx_lt (t0 l) 1
    have g2 := nx_lt (s1 l) 1
    have g3 := nx_lt (s2 l) 1
    have g4 := nx_lt (s3 l) 2
    have hq := s4_cut l h5
    refine ⟨(s4 l).2.1, (s4 l).2.2, hd0 1 stream block, fun w => fld_1b l _ _ _ _ [] [] _ _ _ _ 0 _ _ _ _ stream block g1.1 g1.2 g2.1 g2.2 g3.1 g3.2 g4.1 g4.2 (show ((s4 l).2.2 != 0) = true by rw [hq]; decide) (fun w => rnum_q (t0 l) 1 hl w) (fun w => rnum_q (s1 l) 1 L1 w) (fun w => rnum_q (s2 l) 1 L2 w) (fun w => rnum_q (s3 l) 2 L3 w) w, ?_⟩
    have e : fieldsD (hd0 1 stream block) l = (hd0 1 stream block, 4) := by
      unfold fieldsD
      rw [if_pos (by simp), if_pos h5]
    unfold RdK
    rw [e]
    exact ⟨fun _ => hq, fun h => absurd rfl h⟩
  · obtain ⟨a, b, c, x, y, r, rfl⟩ := list_cons5 (l := l) (by omega)
    obtain ⟨e1, e2, e3, e4, e5⟩ := s5_ok a b c x y r
    generalize hL : a :: b :: c :: x :: y :: r = L at *
    have L1 : (s1 L).2.1.length ≤ 9223372036854775807 := nx_le (t := t0 L) 1 hl
    have L2 : (s2 L).2.1.length ≤ 9223372036854775807 := nx_le 1 L1
    have L3 : (s3 L).2.1.length ≤ 9223372036854775807 := nx_le 1 L2
    have L4 : (s4 L).2.1.length ≤ 9223372036854775807 := nx_le 2 L3
    have g1 := nx_lt (t0 L) 1
    have g2 := nx_lt (s1 L) 1
    have g3 := nx_lt (s2 L) 1
    have g4 := nx_lt (s3 L) 2
    have N4 := fun w => rnum_q (s3 L) 2 L3 w
    have N5 := fun w => rbytes_q (s4 L) (s4 L).2.1.length L4 w
    rw [show nx (s3 L) 2 = s4 L from rfl] at N4 g4
    rw [show nb (s4 L) (s4 L).2.1.length = s5 L from rfl] at N5
    rw [show (s4 L).2.2 = 0 by rw [e4]] at N4 N5
    refine ⟨(s5 L).2.1, (s5 L).2.2, ⟨1, stream, block, unbe (s1 L).1, unbe (s2 L).1, unbe (s3 L).1, unbe (s4 L).1 + 1, 0, [], (s5 L).1⟩, fun w => fld_1 L _ _ _ _ _ _ _ _ _ 0 _ _ _ _ _ stream block g1.1 g1.2 g2.1 g2.2 g3.1 g3.2 g4.1 g4.2 (fun w => rnum_q (t0 L) 1 hl w) (fun w => rnum_q (s1 L) 1 L1 w) (fun w => rnum_q (s2 L) 1 L2 w) N4 N5 w, ?_⟩
    have e : fieldsD (hd0 1 stream block) L = (⟨1, stream, block, unbe (s1 L).1, unbe (s2 L).1, unbe (s3 L).1, unbe (s4 L).1 + 1, 0, [], (s5 L).1⟩, 0) := by
      rw [e1, e2, e3, e4, e5]
      unfold fieldsD
      rw [if_pos (by simp), if_neg h5, ← hL]
      rfl
    unfold RdK
    rw [e, e5]
    exact ⟨fun h => absurd h (by simp), fun _ => ⟨rfl, rfl, ⟨fun _ => rfl, fun _ => rfl⟩, .inl rfl⟩⟩
theorem fields_2 (stream block : Int) (l : List UInt8) (hl : l.length ≤ 9223372036854775807) : ∃ z q d', (∀ w, Calls Try.prog 69 #[.agg #[Str l, .int .i64 0], (hd0 2 stream block).val] w (FldR z q (Dg.val d') w)) ∧ RdK (hd0 2 stream block) l d' z q := by
  by_cases h5 : l.length < 5
  · have L1 : (s1 l).2.1.length ≤ 9223372036854775807 := nx_le (t := t0 l) 1 hl
    have L2 : (s2 l).2.1.length ≤ 9223372036854775807 := nx_le 1 L1
    have L3 : (s3 l).2.1.length ≤ 9223372036854775807 := nx_le 1 L2
    have g1 := nx_lt (t0 l) 1
    have g2 := nx_lt (s1 l) 1
    have g3 := nx_lt (s2 l) 1
    have g4 := nx_lt (s3 l) 2
    have hq := s4_cut l h5
    refine ⟨(s4 l).2.1, (s4 l).2.2, hd0 2 stream block, fun w => fld_2b l _ _ _ _ [] [] _ _ _ _ 0 _ _ _ _ stream block g1.1 g1.2 g2.1 g2.2 g3.1 g3.2 g4.1 g4.2 (show ((s4 l).2.2 != 0) = true by rw [hq]; decide) (fun w => rnum_q (t0 l) 1 hl w) (fun w => rnum_q (s1 l) 1 L1 w) (fun w => rnum_q (s2 l) 1 L2 w) (fun w => rnum_q (s3 l) 2 L3 w) w, ?_⟩
    have e : fieldsD (hd0 2 stream block) l = (hd0 2 stream block, 4) := by
      unfold fieldsD
      rw [if_pos (by simp), if_pos h5]
    unfold RdK
    rw [e]
    exact ⟨fun _ => hq, fun h => absurd rfl h⟩
  · obtain ⟨a, b, c, x, y, r, rfl⟩ := list_cons5 (l := l) (by omega)
    obtain ⟨e1, e2, e3, e4, e5⟩ := s5_ok a b c x y r
    generalize hL : a :: b :: c :: x :: y :: r = L at *
    have L1 : (s1 L).2.1.length ≤ 9223372036854775807 := nx_le (t := t0 L) 1 hl
    have L2 : (s2 L).2.1.length ≤ 9223372036854775807 := nx_le 1 L1
    have L3 : (s3 L).2.1.length ≤ 9223372036854775807 := nx_le 1 L2
    have L4 : (s4 L).2.1.length ≤ 9223372036854775807 := nx_le 2 L3
    have g1 := nx_lt (t0 L) 1
    have g2 := nx_lt (s1 L) 1
    have g3 := nx_lt (s2 L) 1
    have g4 := nx_lt (s3 L) 2
    have N4 := fun w => rnum_q (s3 L) 2 L3 w
    have N5 := fun w => rbytes_q (s4 L) (s4 L).2.1.length L4 w
    rw [show nx (s3 L) 2 = s4 L from rfl] at N4 g4
    rw [show nb (s4 L) (s4 L).2.1.length = s5 L from rfl] at N5
    rw [show (s4 L).2.2 = 0 by rw [e4]] at N4 N5
    refine ⟨(s5 L).2.1, (s5 L).2.2, ⟨2, stream, block, unbe (s1 L).1, unbe (s2 L).1, unbe (s3 L).1, unbe (s4 L).1 + 1, 0, [], (s5 L).1⟩, fun w => fld_2 L _ _ _ _ _ _ _ _ _ 0 _ _ _ _ _ stream block g1.1 g1.2 g2.1 g2.2 g3.1 g3.2 g4.1 g4.2 (fun w => rnum_q (t0 L) 1 hl w) (fun w => rnum_q (s1 L) 1 L1 w) (fun w => rnum_q (s2 L) 1 L2 w) N4 N5 w, ?_⟩
    have e : fieldsD (hd0 2 stream block) L = (⟨2, stream, block, unbe (s1 L).1, unbe (s2 L).1, unbe (s3 L).1, unbe (s4 L).1 + 1, 0, [], (s5 L).1⟩, 0) := by
      rw [e1, e2, e3, e4, e5]
      unfold fieldsD
      rw [if_pos (by simp), if_neg h5, ← hL]
      rfl
    unfold RdK
    rw [e, e5]
    exact ⟨fun h => absurd h (by simp), fun _ => ⟨rfl, rfl, ⟨fun _ => rfl, fun _ => rfl⟩, .inl rfl⟩⟩
theorem fields_3 (stream block : Int) (l : List UInt8) (hl : l.length ≤ 9223372036854775807) : ∃ z q d', (∀ w, Calls Try.prog 69 #[.agg #[Str l, .int .i64 0], (hd0 3 stream block).val] w (FldR z q (Dg.val d') w)) ∧ RdK (hd0 3 stream block) l d' z q := by
  skip
  refine ⟨(tk l 0 32 false).2.1, (tk l 0 32 false).2.2, { hd0 3 stream block with have' := (tk l 0 32 false).1 }, fun w => fld_3 l _ _ _ stream block (fun w => rbytes_q (t0 l) 32 hl w) w, ?_⟩
  unfold RdK fieldsD
  rw [if_neg (by simp), if_pos (by simp)]
  rcases tk_cases l 32 (by omega) with ⟨hl, h2⟩ | ⟨hl, h2⟩
  · rw [h2, if_pos (by omega)]
    exact ⟨fun _ => rfl, fun h => absurd rfl h⟩
  · rw [h2, if_neg (by omega)]
    by_cases h3 : l.length = 32
    · rw [if_pos h3]
      exact ⟨fun h => absurd h (by simp), fun _ => ⟨rfl, rfl, ⟨fun _ => rfl, fun _ => List.drop_of_length_le (by show l.length ≤ 32; omega)⟩, .inl rfl⟩⟩
    · rw [if_neg h3]
      refine ⟨fun h => absurd h (by simp), fun _ => ⟨rfl, rfl, ⟨fun h => ?_, fun h => absurd h (by simp)⟩, .inr rfl⟩⟩
      have := congrArg List.length h
      simp at this
      omega
theorem fields_4 (stream block : Int) (l : List UInt8) (hl : l.length ≤ 9223372036854775807) : ∃ z q d', (∀ w, Calls Try.prog 69 #[.agg #[Str l, .int .i64 0], (hd0 4 stream block).val] w (FldR z q (Dg.val d') w)) ∧ RdK (hd0 4 stream block) l d' z q := by
  have g1 := nx_lt (t0 l) 2
  refine ⟨(tk l 0 2 false).2.1, (tk l 0 2 false).2.2, { hd0 4 stream block with credit := unbe (tk l 0 2 false).1 }, fun w => fld_4 l _ _ _ stream block g1.1 g1.2 (fun w => rnum_q (t0 l) 2 hl w) w, ?_⟩
  unfold RdK fieldsD
  rw [if_neg (by simp), if_neg (by simp), if_pos (by simp)]
  rcases tk_cases l 2 (by omega) with ⟨hl, h2⟩ | ⟨hl, h2⟩
  · rw [h2, if_pos (by omega)]
    exact ⟨fun _ => rfl, fun h => absurd rfl h⟩
  · rw [h2, if_neg (by omega)]
    by_cases h3 : l.length = 2
    · rw [if_pos h3]
      exact ⟨fun h => absurd h (by simp), fun _ => ⟨rfl, rfl, ⟨fun _ => rfl, fun _ => List.drop_of_length_le (by show l.length ≤ 2; omega)⟩, .inl rfl⟩⟩
    · rw [if_neg h3]
      refine ⟨fun h => absurd h (by simp), fun _ => ⟨rfl, rfl, ⟨fun h => ?_, fun h => absurd h (by simp)⟩, .inr rfl⟩⟩
      have := congrArg List.length h
      simp at this
      omega
theorem fields_o (kind stream block : Int) (h1 : kind ≠ 1) (h2 : kind ≠ 2) (h3 : kind ≠ 3) (h4 : kind ≠ 4) (l : List UInt8) : ∃ z q d', (∀ w, Calls Try.prog 69 #[.agg #[Str l, .int .i64 0], (hd0 kind stream block).val] w (FldR z q (Dg.val d') w)) ∧ RdK (hd0 kind stream block) l d' z q := by
  refine ⟨l, 0, hd0 kind stream block, fun w => fld_o l kind stream block (by simpa using h1) (by simpa using h2) (by simpa using h3) (by simpa using h4) w, ?_⟩
  unfold RdK fieldsD
  rw [if_neg (by simp [h1, h2]), if_neg (by simpa using h3), if_neg (by simpa using h4)]
  refine ⟨fun h => ?_, fun _ => ⟨rfl, rfl, ?_, ?_⟩⟩
  · simp only at h
    split at h <;> cases h
  · by_cases hl : l = [] <;> simp [hl]
  · by_cases hl : l = [] <;> simp [hl]
theorem fields_r (kind stream block : Int) (l : List UInt8) (hl : l.length ≤ 9223372036854775807) : ∃ z q d', (∀ w, Calls Try.prog 69 #[.agg #[Str l, .int .i64 0], (hd0 kind stream block).val] w (FldR z q (Dg.val d') w)) ∧ RdK (hd0 kind stream block) l d' z q := by
  by_cases h1 : kind = 1
  · subst h1; exact fields_1 stream block l hl
  · by_cases h2 : kind = 2
    · subst h2; exact fields_2 stream block l hl
    · by_cases h3 : kind = 3
      · subst h3; exact fields_3 stream block l hl
      · by_cases h4 : kind = 4
        · subst h4; exact fields_4 stream block l hl
        · exact fields_o kind stream block h1 h2 h3 h4 l
end Go.Proofs.Ytphejbjbleeigaa
