/-
  Datagrams: a kind's fields are read: contracts (chapter 10).
-/
import Derived.Test.YtphejbjbleeigaaDg7
import Derived.Test.YtphejbjbleeigaaWireT
namespace Go.Proofs.Ytphejbjbleeigaa
open Go.RowKit
set_option linter.unusedVariables false
set_option maxRecDepth 100000
set_option maxHeartbeats 2000000
def t0 (l : List UInt8) : Tk := ([], l, 0)
/-- What the reading of a kind's fields leaves. -/
def RdK (d : Dg) (l : List UInt8) (d' : Dg) (l' : List UInt8) (e' : Int) : Prop :=
  ((fieldsD d l).2 = 4 → e' = 4) ∧ ((fieldsD d l).2 ≠ 4 → e' = 0 ∧ d' = (fieldsD d l).1 ∧ (l' = [] ↔ (fieldsD d l).2 = 0) ∧ ((fieldsD d l).2 = 0 ∨ (fieldsD d l).2 = 5))
def ReadPost (f3 : Nat) (d : Dg) : Prop := ∀ (b g : Nat) (l : List UInt8) (w : World), g ≠ b → Rd w b l 0 → Blk w g d.vals.toArray 24 →
  Calls Try.prog f3 #[.pointer (some ⟨b, 0, none⟩), .pointer (some ⟨g, 0, none⟩)] w fun e w' => e = .returned (.tuple #[]) ∧ Only [b, g] w w' ∧
    ∃ d' l' e', Rd w' b l' e' ∧ Blk w' g d'.vals.toArray 24 ∧ RdK d l d' l' e'
theorem Rd.only {w w' : World} {b : Nat} {l : List UInt8} {e : Int} {S : List Nat} (h : Rd w b l e) (ho : Only S w w') (hb : b ∉ S) : Rd w' b l e := ⟨h.1.only ho hb, h.2⟩
theorem Rd.setOther {w : World} {b : Nat} {l : List UInt8} {e : Int} (h : Rd w b l e) (a : Addr) (v : Value) (hne : b ≠ a.block) : Rd (w.setCell a v) b l e := ⟨h.1.setOther a v hne, h.2⟩
theorem rd_pl (d : Dg) (h1 : d.kind = 5 ∨ d.kind = 6) : ReadPost 144 d := by
  intro b g l w hne hr hg
  have HR := Lib.hid hr
  have HG := Lib.hid hg
  clear hr hg
  go_enter Try.func144, Try.ntmps144
  go_wp2_with fail
  go_end0
  refine ⟨rfl, Only.refl _ _, d, l, 0, HR.out, HG.out, ?_⟩
  unfold RdK fieldsD
  rw [if_neg (by omega), if_neg (by omega), if_neg (by omega)]
  refine ⟨fun h => ?_, fun _ => ⟨rfl, rfl, ?_, ?_⟩⟩
  · simp only at h
    split at h <;> cases h
  · by_cases hl : l = [] <;> simp [hl]
  · by_cases hl : l = [] <;> simp [hl]
theorem rd_ak (d : Dg) (h1 : d.kind = 4) : ReadPost 140 d := by
  intro b g l w hne hr hg
  obtain ⟨kind, stream, block, index, k, n, len, credit, hv, body⟩ := d
  have hc := hg.facts.1
  have hf := hg.facts.2.1
  have HG := Lib.hid hg
  have hn := num_t b (t0 l) 2 w hr
  have hlt := nx_lt (t0 l) 2
  have HL : Hid (nx (t0 l) 2 = nx (t0 l) 2 ∧ g ≠ b) := ⟨rfl, hne⟩
  have hgl := hg.lt
  have hbl := hr.1.lt
  generalize hq : nx (t0 l) 2 = t at hn hlt HL
  have HQ := Lib.hid hq
  have HN := Lib.hid hn
  clear hn hq hr hg
  go_enter Try.func140, Try.ntmps140
  go_wp2_with fail
  refine HN.out.mono ?_
  rintro e w1 ⟨rfl, hr1, ho⟩
  have hg1 := HG.out.only ho (by simpa using hne)
  clear HN hc hf
  have hc := hg1.facts.1
  have hf := hg1.facts.2.1
  have HR1 := Lib.hid hr1
  have HG1 := Lib.hid hg1
  clear hr1 hg1
  generalize hm : unbe t.1 = m at *
  have HM := Lib.hid hm
  clear hm
  simp only [Dg.vals] at hc
  go_wp2_with fail
  go_end0
  refine ⟨rfl, ?_, ⟨kind, stream, block, index, k, n, len, m, hv, body⟩, t.2.1, t.2.2, ?_, ?_, ?_⟩
  · exact (ho.mono (fun x hx => .inl (by simp at hx; simp [hx]))).setCell _ _ (.inl (by simp))
  · exact HR1.out.setOther _ _ (fun h => hne h.symm)
  · exact HG1.out.setAt 7 _ (by simp [Dg.vals])
  · try simp only at h1
    unfold RdK fieldsD
    rw [if_neg (by simp only; omega), if_neg (by simp only; omega), if_pos h1]
    have ht := HQ.out
    have hmm := HM.out
    simp only
    rcases tk_cases l 2 (by omega) with ⟨hl, h2⟩ | ⟨hl, h2⟩
    · have e : t = ([], l, 4) := by rw [← ht]; exact h2
      rw [if_pos (by omega)]
      exact ⟨fun _ => by rw [e], fun h => absurd rfl h⟩
    · have e : t = (l.take 2, l.drop 2, 0) := by rw [← ht]; exact h2
      rw [if_neg (by omega)]
      subst e
      try simp only at hmm ⊢
      subst hmm
      by_cases h3 : l.length = 2
      · rw [if_pos h3]
        exact ⟨fun h => absurd h (by decide), fun _ => ⟨(by first | rfl | trivial), (by first | rfl | trivial), ⟨fun _ => rfl, fun _ => List.drop_of_length_le (by omega)⟩, .inl rfl⟩⟩
      · rw [if_neg h3]
        refine ⟨fun h => absurd h (by decide), fun _ => ⟨(by first | rfl | trivial), (by first | rfl | trivial), ⟨fun h => ?_, fun h => absurd h (by decide)⟩, .inr rfl⟩⟩
        have := congrArg List.length h
        simp at this
        omega
theorem rd_nk (d : Dg) (h1 : d.kind = 3) : ReadPost 136 d := by
  intro b g l w hne hr hg
  obtain ⟨kind, stream, block, index, k, n, len, credit, hv, body⟩ := d
  have HG := Lib.hid hg
  have hn := bytes_t b (t0 l) 32 w hr
  have hgl := hg.lt
  have hbl := hr.1.lt
  generalize hq : nb (t0 l) 32 = t at hn
  have HQ := Lib.hid hq
  have HN := Lib.hid hn
  clear hn hq hr hg
  go_enter Try.func136, Try.ntmps136
  go_wp2_with fail
  refine HN.out.mono ?_
  rintro e w1 ⟨rfl, hr1, ho⟩
  have hg1 := HG.out.only ho (by simpa using hne)
  clear HN
  have hc := hg1.facts.1
  have hf := hg1.facts.2.1
  have HR1 := Lib.hid hr1
  have HG1 := Lib.hid hg1
  clear hr1 hg1
  generalize hm : t.1 = m at *
  have HM := Lib.hid hm
  clear hm
  simp only [Dg.vals] at hc
  go_wp2_with fail
  go_end0
  refine ⟨rfl, ?_, ⟨kind, stream, block, index, k, n, len, credit, m, body⟩, t.2.1, t.2.2, ?_, ?_, ?_⟩
  · exact (ho.mono (fun x hx => .inl (by simp at hx; simp [hx]))).setCell _ _ (.inl (by simp))
  · exact HR1.out.setOther _ _ (fun h => hne h.symm)
  · exact HG1.out.setAt 8 _ (by simp [Dg.vals])
  · try simp only at h1
    unfold RdK fieldsD
    rw [if_neg (by simp only; omega), if_pos h1]
    have ht := HQ.out
    have hmm := HM.out
    simp only
    rcases tk_cases l 32 (by omega) with ⟨hl, h2⟩ | ⟨hl, h2⟩
    · have e : t = ([], l, 4) := by rw [← ht]; exact h2
      rw [if_pos (by omega)]
      exact ⟨fun _ => by rw [e], fun h => absurd rfl h⟩
    · have e : t = (l.take 32, l.drop 32, 0) := by rw [← ht]; exact h2
      rw [if_neg (by omega)]
      subst e
      try simp only at hmm ⊢
      subst hmm
      by_cases h3 : l.length = 32
      · rw [if_pos h3]
        exact ⟨fun h => absurd h (by decide), fun _ => ⟨(by first | rfl | trivial), (by first | rfl | trivial), ⟨fun _ => rfl, fun _ => List.drop_of_length_le (by omega)⟩, .inl rfl⟩⟩
      · rw [if_neg h3]
        refine ⟨fun h => absurd h (by decide), fun _ => ⟨(by first | rfl | trivial), (by first | rfl | trivial), ⟨fun h => ?_, fun h => absurd h (by decide)⟩, .inr rfl⟩⟩
        have := congrArg List.length h
        simp at this
        omega
def s1 (l : List UInt8) : Tk := nx (t0 l) 1
def s2 (l : List UInt8) : Tk := nx (s1 l) 1
def s3 (l : List UInt8) : Tk := nx (s2 l) 1
def s4 (l : List UInt8) : Tk := nx (s3 l) 2
def s5 (l : List UInt8) : Tk := nb (s4 l) (s4 l).2.1.length
theorem nx_err (t : Tk) (n : Int) (h : t.2.2 = 4) : (nx t n).2.2 = 4 := by
  unfold nx
  rw [tk_err _ _ _ _ (by omega)]
  exact h
theorem nb_err (t : Tk) (n : Int) (h : t.2.2 = 4) : (nb t n).2.2 = 4 := by
  unfold nb
  rw [tk_err _ _ _ _ (by omega)]
  exact h
theorem nx_cut (x l : List UInt8) (n : Int) (hb : badB n = false) (h : (l.length : Int) < n) : (nx (x, l, 0) n).2.2 = 4 := by
  unfold nx
  rw [hb]
  rcases tk_cases l n (by have := bad_pos n hb; omega) with ⟨_, h2⟩ | ⟨h1, _⟩
  · simp only [h2]
  · omega
theorem s5_cut (l : List UInt8) (h : l.length < 5) : (s5 l).2.2 = 4 := by
  match l, h with
  | [], _ => exact nb_err _ _ (nx_err _ _ (nx_err _ _ (nx_err _ _ (nx_cut _ _ _ rfl (by simp)))))
  | [a], _ =>
    have e1 : s1 [a] = ([a], [], 0) := nx_back _ [a] [] 1 rfl rfl
    unfold s5 s4 s3 s2
    rw [e1]
    exact nb_err _ _ (nx_err _ _ (nx_err _ _ (nx_cut _ _ _ rfl (by simp))))
  | [a, b], _ =>
    have e1 : s1 [a, b] = ([a], [b], 0) := nx_back _ [a] [b] 1 rfl rfl
    have e2 : s2 [a, b] = ([b], [], 0) := by unfold s2; rw [e1]; exact nx_back _ [b] [] 1 rfl rfl
    unfold s5 s4 s3
    rw [e2]
    exact nb_err _ _ (nx_err _ _ (nx_cut _ _ _ rfl (by simp)))
  | [a, b, c], _ =>
    have e1 : s1 [a, b, c] = ([a], [b, c], 0) := nx_back _ [a] [b, c] 1 rfl rfl
    have e2 : s2 [a, b, c] = ([b], [c], 0) := by unfold s2; rw [e1]; exact nx_back _ [b] [c] 1 rfl rfl
    have e3 : s3 [a, b, c] = ([c], [], 0) := by unfold s3; rw [e2]; exact nx_back _ [c] [] 1 rfl rfl
    unfold s5 s4
    rw [e3]
    exact nb_err _ _ (nx_cut _ _ _ rfl (by simp))
  | [a, b, c, d], _ =>
    have e1 : s1 [a, b, c, d] = ([a], [b, c, d], 0) := nx_back _ [a] [b, c, d] 1 rfl rfl
    have e2 : s2 [a, b, c, d] = ([b], [c, d], 0) := by unfold s2; rw [e1]; exact nx_back _ [b] [c, d] 1 rfl rfl
    have e3 : s3 [a, b, c, d] = ([c], [d], 0) := by unfold s3; rw [e2]; exact nx_back _ [c] [d] 1 rfl rfl
    unfold s5 s4
    rw [e3]
    exact nb_err _ _ (nx_cut _ _ _ rfl (by simp))
theorem s5_ok (a b c x y : UInt8) (r : List UInt8) : s1 (a :: b :: c :: x :: y :: r) = ([a], b :: c :: x :: y :: r, 0) ∧ s2 (a :: b :: c :: x :: y :: r) = ([b], c :: x :: y :: r, 0) ∧ s3 (a :: b :: c :: x :: y :: r) = ([c], x :: y :: r, 0) ∧ s4 (a :: b :: c :: x :: y :: r) = ([x, y], r, 0) ∧ s5 (a :: b :: c :: x :: y :: r) = (r, [], 0) := by
  have e1 : s1 (a :: b :: c :: x :: y :: r) = ([a], b :: c :: x :: y :: r, 0) := nx_back _ [a] _ 1 rfl rfl
  have e2 : s2 (a :: b :: c :: x :: y :: r) = ([b], c :: x :: y :: r, 0) := by unfold s2; rw [e1]; exact nx_back _ [b] _ 1 rfl rfl
  have e3 : s3 (a :: b :: c :: x :: y :: r) = ([c], x :: y :: r, 0) := by unfold s3; rw [e2]; exact nx_back _ [c] _ 1 rfl rfl
  have e4 : s4 (a :: b :: c :: x :: y :: r) = ([x, y], r, 0) := by unfold s4; rw [e3]; exact nx_back _ [x, y] _ 2 rfl rfl
  refine ⟨e1, e2, e3, e4, ?_⟩
  unfold s5
  rw [e4]
  have := nb_back [x, y] r [] r.length rfl
  rwa [List.append_nil] at this
theorem nx_lt2 (t : Tk) : unbe (nx t 2).1 < 65536 := by
  have h1 := unbe_lt (nx t 2).1
  have h2 : (nx t 2).1.length ≤ 2 := by
    unfold nx tk
    split
    · simp
    · split
      · simp
      · split
        · simp
        · simp; omega
  have h3 : (256 : Int) ^ (nx t 2).1.length ≤ 256 ^ 2 := by
    have : (256 : Nat) ^ (nx t 2).1.length ≤ 256 ^ 2 := Nat.pow_le_pow_right (by omega) h2
    exact_mod_cast this
  have e : (256 : Int) ^ 2 = 65536 := by decide
  omega
theorem list_cons5 {l : List UInt8} (h : 5 ≤ l.length) : ∃ a b c x y r, l = a :: b :: c :: x :: y :: r := by
  match l, h with
  | a :: b :: c :: x :: y :: r, _ => exact ⟨a, b, c, x, y, r, rfl⟩
theorem rd_sh (d : Dg) (h1 : d.kind = 1 ∨ d.kind = 2) : ReadPost 131 d := by
  intro b g l w hne hr hg
  obtain ⟨kind, stream, block, index, k, n, len, credit, hv, body⟩ := d
  have HG := Lib.hid hg
  have HR := Lib.hid hr
  have hgl := hg.lt
  have hbl := hr.1.lt
  have b1 := nx_lt (t0 l) 1
  have b2 := nx_lt (s1 l) 1
  have b3 := nx_lt (s2 l) 1
  have b4 := nx_lt2 (s3 l)
  have b4' := nx_lt (s3 l) 2
  rw [show nx (t0 l) 1 = s1 l from rfl] at b1
  rw [show nx (s1 l) 1 = s2 l from rfl] at b2
  rw [show nx (s2 l) 1 = s3 l from rfl] at b3
  rw [show nx (s3 l) 2 = s4 l from rfl] at b4 b4'
  have hN1 : Hid (∀ w, Rd w b (t0 l).2.1 (t0 l).2.2 → _) := Lib.hid (fun w h => num_t b (t0 l) 1 w h)
  have hN2 : Hid (∀ w, Rd w b (s1 l).2.1 (s1 l).2.2 → _) := Lib.hid (fun w h => num_t b (s1 l) 1 w h)
  have hN3 : Hid (∀ w, Rd w b (s2 l).2.1 (s2 l).2.2 → _) := Lib.hid (fun w h => num_t b (s2 l) 1 w h)
  have hN4 : Hid (∀ w, Rd w b (s3 l).2.1 (s3 l).2.2 → _) := Lib.hid (fun w h => num_t b (s3 l) 2 w h)
  have hN5 : Hid (∀ w, Rd w b (s4 l).2.1 (s4 l).2.2 → _) := Lib.hid (fun w h => bytes_t b (s4 l) (s4 l).2.1.length w h)
  rw [show nx (t0 l) 1 = s1 l from rfl] at hN1
  rw [show nx (s1 l) 1 = s2 l from rfl] at hN2
  rw [show nx (s2 l) 1 = s3 l from rfl] at hN3
  rw [show nx (s3 l) 2 = s4 l from rfl] at hN4
  rw [show nb (s4 l) (s4 l).2.1.length = s5 l from rfl] at hN5
  have hR0 : Hid (Rd w b (t0 l).2.1 (t0 l).2.2) := Lib.hid hr
  have HK : Hid (RdK ⟨kind, stream, block, index, k, n, len, credit, hv, body⟩ l ⟨kind, stream, block, unbe (s1 l).1, unbe (s2 l).1, unbe (s3 l).1, unbe (s4 l).1 + 1, credit, hv, (s5 l).1⟩ (s5 l).2.1 (s5 l).2.2) := by
    refine Lib.hid ?_
    unfold RdK fieldsD
    rw [if_pos h1]
    simp only
    by_cases hl : l.length < 5
    · rw [if_pos hl]
      exact ⟨fun _ => s5_cut l hl, fun h => absurd rfl h⟩
    · rw [if_neg hl]
      obtain ⟨a, b, c, x, y, r, rfl⟩ := list_cons5 (l := l) (by omega)
      obtain ⟨e1, e2, e3, e4, e5⟩ := s5_ok a b c x y r
      rw [e1, e2, e3, e4, e5]
      exact ⟨fun h => absurd h (by show ¬ (0 : Int) = 4; decide), fun _ => ⟨rfl, rfl, ⟨fun _ => rfl, fun _ => rfl⟩, .inl rfl⟩⟩
  clear hr hg
  generalize s1 l = u1 at *
  generalize s2 l = u2 at *
  generalize s3 l = u3 at *
  generalize s4 l = u4 at *
  generalize s5 l = u5 at *
  generalize t0 l = u0 at *
  obtain ⟨y1, z1, x1⟩ := u1
  obtain ⟨y2, z2, x2⟩ := u2
  obtain ⟨y3, z3, x3⟩ := u3
  obtain ⟨y4, z4, x4⟩ := u4
  obtain ⟨y5, z5, x5⟩ := u5
  simp only at *
  generalize unbe y1 = m1 at *
  generalize unbe y2 = m2 at *
  generalize unbe y3 = m3 at *
  generalize unbe y4 = m4 at *
  go_enter Try.func131, Try.ntmps131
  go_wp2_with fail
  refine (hN1.out _ hR0.out).mono ?_
  rintro e w1 ⟨rfl, hr1, ho⟩
  have HR1 := Lib.hid hr1
  clear hr1
  go_wp2_with fail
  refine (hN2.out _ HR1.out).mono ?_
  rintro e w2 ⟨rfl, hr2, ho2⟩
  have ho := ho.trans ho2
  have HR2 := Lib.hid hr2
  clear hr2 ho2 HR1
  go_wp2_with fail
  refine (hN3.out _ HR2.out).mono ?_
  rintro e w3 ⟨rfl, hr3, ho3⟩
  have ho := ho.trans ho3
  have HR3 := Lib.hid hr3
  clear hr3 ho3 HR2
  go_wp2_with fail
  refine (hN4.out _ HR3.out).mono ?_
  rintro e w4 ⟨rfl, hr4, ho4⟩
  have ho := ho.trans ho4
  have HR4 := Lib.hid hr4
  have hg4 := HG.out.only ho (by simpa using hne)
  clear hr4 ho4 HR3 HG
  have hc := hg4.facts.1
  have hf := hg4.facts.2.1
  have hl4 := hg4.lt
  have HG4 := Lib.hid hg4
  clear hg4
  simp only [Dg.vals] at hc
  go_wp2_with fail
  have hr5 := (((HR4.out.setOther ⟨g, 3, none⟩ (.int .i64 m1) (fun h => hne h.symm)).setOther ⟨g, 4, none⟩ (.int .i64 m2) (fun h => hne h.symm)).setOther ⟨g, 5, none⟩ (.int .i64 m3) (fun h => hne h.symm)).setOther ⟨g, 6, none⟩ (.int .i64 (m4 + 1)) (fun h => hne h.symm)
  have hg5 := (((HG4.out.set 3 (.int .i64 m1)).set 4 (.int .i64 m2)).set 5 (.int .i64 m3)).set 6 (.int .i64 (m4 + 1))
  have ho5 : Only [b, g] w ((((w4.setCell ⟨g, 3, none⟩ (.int .i64 m1)).setCell ⟨g, 4, none⟩ (.int .i64 m2)).setCell ⟨g, 5, none⟩ (.int .i64 m3)).setCell ⟨g, 6, none⟩ (.int .i64 (m4 + 1))) :=
    ((((ho.mono (fun x hx => .inl (by simp at hx; simp [hx]))).setCell _ _ (.inl (by simp))).setCell _ _ (.inl (by simp))).setCell _ _ (.inl (by simp))).setCell _ _ (.inl (by simp))
  clear hc hf hl4 HR4 HG4 ho
  generalize (((w4.setCell ⟨g, 3, none⟩ (.int .i64 m1)).setCell ⟨g, 4, none⟩ (.int .i64 m2)).setCell ⟨g, 5, none⟩ (.int .i64 m3)).setCell ⟨g, 6, none⟩ (.int .i64 (m4 + 1)) = w5 at *
  have HR5 := Lib.hid hr5
  refine (left_any b z4 x4 w5 hr5).mono ?_
  rintro e w6 ⟨rfl, rfl⟩
  clear hr5
  go_wp2_with fail
  refine (hN5.out _ HR5.out).mono ?_
  rintro e w7 ⟨rfl, hr7, ho7⟩
  have hg7 := hg5.only ho7 (by simpa using hne)
  have ho := ho5.trans (ho7.mono (S' := [b, g]) (fun x hx => .inl (by simp at hx; simp [hx])))
  clear hg5 ho5 ho7 HR5
  have hc := hg7.facts.1
  have hf := hg7.facts.2.1
  have hl7 := hg7.lt
  have HG7 := Lib.hid hg7
  have HR7 := Lib.hid hr7
  clear hg7 hr7
  simp only [Dg.vals] at hc
  go_wp2_with fail
  go_end0
  refine ⟨rfl, ?_, ⟨kind, stream, block, m1, m2, m3, m4 + 1, credit, hv, y5⟩, z5, x5, ?_, ?_, HK.out⟩
  · exact ho.setCell _ _ (.inl (by simp))
  · exact HR7.out.setOther _ _ (fun h => hne h.symm)
  · exact HG7.out.setAt 9 _ (by simp [Dg.vals])
end Go.Proofs.Ytphejbjbleeigaa
