/-
  Scripts (chapter 33): plain: which steps may be, their bytes, the step with which bytes begin.
-/
import Derived.Test.YtdjjienklfbalaaWireT
namespace Go.Proofs.Ytdjjienklfbalaa
set_option linter.unusedVariables false
structure Ac where
  kind : Int
  side : Int
  ck : Int
  cs : Int
  cn : Int
  cb : List UInt8
  n : Int
  raw : List UInt8
def Ac.vals (a : Ac) : List Value := [.int .i64 a.kind, .int .i64 a.side, .int .i64 a.ck, .int .i64 a.cs, .int .i64 a.cn, Str a.cb, .int .i64 a.n, Str a.raw]
abbrev Ac.val (a : Ac) : Value := .agg #[.int .i64 a.kind, .int .i64 a.side, .int .i64 a.ck, .int .i64 a.cs, .int .i64 a.cn, Str a.cb, .int .i64 a.n, Str a.raw]
instance : DecidableEq Ac := fun a b =>
  if h : a.kind = b.kind ∧ a.side = b.side ∧ a.ck = b.ck ∧ a.cs = b.cs ∧ a.cn = b.cn ∧ a.cb = b.cb ∧ a.n = b.n ∧ a.raw = b.raw then
    isTrue (by
      cases a; cases b
      simp only at h
      obtain ⟨h1, h2, h3, h4, h5, h6, h7, h8⟩ := h
      subst h1 h2 h3 h4 h5 h6 h7 h8
      rfl)
  else isFalse (fun e => h (by subst e; simp))
def callB (ck cs cn : Int) (cb : List UInt8) : Bool := decide (1 ≤ ck) && decide (ck ≤ 6) && decide (0 ≤ cs) && decide (cs ≤ 255) && decide (0 ≤ cn) && decide (cn ≤ 65535) && decide (cb.length ≤ 2048) && (decide (cb = []) || ck == 2)
def call0 (a : Ac) : Bool := a.ck == 0 && a.cs == 0 && a.cn == 0 && decide (a.cb = [])
def hdB (a : Ac) : Bool := decide (1 ≤ a.kind) && decide (a.kind ≤ 11) && decide (0 ≤ a.side) && decide (a.side ≤ 1) && decide (0 ≤ a.n) && decide (a.n ≤ 2147483647)
/-- May a step be? -/
def mayA (a : Ac) : Bool := hdB a && (if a.kind = 1 then decide (a.raw = []) && callB a.ck a.cs a.cn a.cb else if a.kind = 10 then decide (a.raw.length ≤ 2048) && call0 a else decide (a.raw = []) && call0 a)
def restA (a : Ac) : List UInt8 :=
  if a.kind = 1 then be a.ck 1 ++ be a.cs 1 ++ be a.cn 2 ++ be (a.cb.length : Nat) 2 ++ a.cb
  else if a.kind = 10 then be (a.raw.length : Nat) 2 ++ a.raw
  else []
def encA (a : Ac) : List UInt8 := be a.kind 1 ++ be a.side 1 ++ be a.n 4 ++ restA a
def putAE (l : List Ac) : Int := if 1024 < l.length then 3 else if l.all mayA then 0 else 1
def putAS (l : List Ac) : List UInt8 := if putAE l = 0 then l.flatMap encA else []
def h1 (l : List UInt8) : Tk := tk l 0 1 (badB 1)
def h2 (l : List UInt8) : Tk := nx (h1 l) 1
def h3 (l : List UInt8) : Tk := nx (h2 l) 4
def c1 (t : Tk) : Tk := nx t 1
def c2 (t : Tk) : Tk := nx (c1 t) 1
def c3 (t : Tk) : Tk := nx (c2 t) 2
def c4 (t : Tk) : Tk := nx (c3 t) 2
def c5 (t : Tk) : Tk := nb (c4 t) (unbe (c4 t).1)
def r1 (t : Tk) : Tk := nx t 2
def r2 (t : Tk) : Tk := nb (r1 t) (unbe (r1 t).1)
/-- The step with which bytes begin; what is left, and the error. -/
def oneC (l : List UInt8) : Ac × List UInt8 × Int :=
  if unbe (h1 l).1 = 1 then (⟨1, unbe (h2 l).1, unbe (c1 (h3 l)).1, unbe (c2 (h3 l)).1, unbe (c3 (h3 l)).1, (c5 (h3 l)).1, unbe (h3 l).1, []⟩, (c5 (h3 l)).2.1, (c5 (h3 l)).2.2)
  else if unbe (h1 l).1 = 10 then (⟨10, unbe (h2 l).1, 0, 0, 0, [], unbe (h3 l).1, (r2 (h3 l)).1⟩, (r2 (h3 l)).2.1, (r2 (h3 l)).2.2)
  else (⟨unbe (h1 l).1, unbe (h2 l).1, 0, 0, 0, [], unbe (h3 l).1, []⟩, (h3 l).2.1, (h3 l).2.2)
def rdL : Nat → List UInt8 → List Ac → Option (List Ac)
  | 0, _, _ => none
  | f + 1, l, out => if l = [] then some out else if (oneC l).2.2 ≠ 0 ∨ mayA (oneC l).1 = false ∨ out.length = 1024 then none else rdL f (oneC l).2.1 (out ++ [(oneC l).1])
def readA (l : List UInt8) : Option (List Ac) := rdL (l.length + 1) l []
/-! It comes back. -/
theorem unbe_be1 (x : Int) (h0 : 0 ≤ x) (h1 : x < 256) : unbe (be x 1) = x := by rw [unbe_be x h0 1]; omega
theorem unbe_be2 (x : Int) (h0 : 0 ≤ x) (h1 : x < 65536) : unbe (be x 2) = x := by rw [unbe_be x h0 2]; omega
theorem unbe_be4 (x : Int) (h0 : 0 ≤ x) (h1 : x < 4294967296) : unbe (be x 4) = x := by rw [unbe_be x h0 4]; omega
structure MayA (a : Ac) : Prop where
  k : 1 ≤ a.kind ∧ a.kind ≤ 11
  s : 0 ≤ a.side ∧ a.side ≤ 1
  n : 0 ≤ a.n ∧ a.n ≤ 2147483647
  rest : (a.kind = 1 → a.raw = [] ∧ (1 ≤ a.ck ∧ a.ck ≤ 6) ∧ (0 ≤ a.cs ∧ a.cs ≤ 255) ∧ (0 ≤ a.cn ∧ a.cn ≤ 65535) ∧ a.cb.length ≤ 2048) ∧
    (a.kind = 10 → a.raw.length ≤ 2048) ∧ (a.kind ≠ 1 → a.ck = 0 ∧ a.cs = 0 ∧ a.cn = 0 ∧ a.cb = []) ∧ (a.kind ≠ 10 → a.raw = [])
theorem mayA_facts {a : Ac} (h : mayA a = true) : MayA a := by
  unfold mayA hdB at h
  simp only [Bool.and_eq_true, decide_eq_true_eq] at h
  obtain ⟨⟨⟨⟨⟨⟨h1, h2⟩, h3⟩, h4⟩, h5⟩, h6⟩, h7⟩ := h
  refine ⟨⟨h1, h2⟩, ⟨h3, h4⟩, ⟨h5, h6⟩, ?_⟩
  by_cases k1 : a.kind = 1
  · rw [if_pos k1] at h7
    unfold callB at h7
    simp only [Bool.and_eq_true, decide_eq_true_eq] at h7
    obtain ⟨q0, ⟨⟨⟨⟨⟨⟨q1, q2⟩, q3⟩, q4⟩, q5⟩, q6⟩, q7⟩, _⟩ := h7
    exact ⟨fun _ => ⟨q0, ⟨q1, q2⟩, ⟨q3, q4⟩, ⟨q5, q6⟩, q7⟩, fun e => by omega, fun e => absurd k1 e, fun _ => q0⟩
  · rw [if_neg k1] at h7
    by_cases k2 : a.kind = 10
    · rw [if_pos k2] at h7
      unfold call0 at h7
      simp only [Bool.and_eq_true, decide_eq_true_eq, beq_iff_eq] at h7
      exact ⟨fun e => absurd e k1, fun _ => h7.1, fun _ => ⟨h7.2.1.1.1, h7.2.1.1.2, h7.2.1.2, h7.2.2⟩, fun e => absurd k2 e⟩
    · rw [if_neg k2] at h7
      unfold call0 at h7
      simp only [Bool.and_eq_true, decide_eq_true_eq, beq_iff_eq] at h7
      exact ⟨fun e => absurd e k1, fun e => absurd e k2, fun _ => ⟨h7.2.1.1.1, h7.2.1.1.2, h7.2.1.2, h7.2.2⟩, fun _ => h7.1⟩
theorem one_back {a : Ac} (h : mayA a = true) (r : List UInt8) : oneC (encA a ++ r) = (a, r, 0) := by
  obtain ⟨hk, hs, hn, hc, hr, h0, hw⟩ := mayA_facts h
  have e1 : h1 (encA a ++ r) = (be a.kind 1, be a.side 1 ++ (be a.n 4 ++ (restA a ++ r)), 0) := by
    unfold h1 encA
    rw [show (be a.kind 1 ++ be a.side 1 ++ be a.n 4 ++ restA a ++ r) = be a.kind 1 ++ (be a.side 1 ++ (be a.n 4 ++ (restA a ++ r))) by simp]
    exact nx_back [] _ _ 1 rfl (by rw [be_length]; rfl)
  have e2 : h2 (encA a ++ r) = (be a.side 1, be a.n 4 ++ (restA a ++ r), 0) := by
    unfold h2; rw [e1]; exact nx_back _ _ _ 1 rfl (by rw [be_length]; rfl)
  have e3 : h3 (encA a ++ r) = (be a.n 4, restA a ++ r, 0) := by
    unfold h3; rw [e2]; exact nx_back _ _ _ 4 rfl (by rw [be_length]; rfl)
  unfold oneC
  rw [e1, e2, e3]
  simp only
  rw [unbe_be1 _ (by omega) (by omega), unbe_be1 _ (by omega) (by omega), unbe_be4 _ (by omega) (by omega)]
  obtain ⟨kind, side, ck, cs, cn, cb, n, raw⟩ := a
  simp only at *
  by_cases k1 : kind = 1
  · subst k1
    obtain ⟨q0, q1, q2, q3, q4⟩ := hc rfl
    have er : restA ⟨1, side, ck, cs, cn, cb, n, raw⟩ ++ r = be ck 1 ++ (be cs 1 ++ (be cn 2 ++ (be (cb.length : Nat) 2 ++ (cb ++ r)))) := by
      unfold restA; rw [if_pos rfl]; simp
    rw [if_pos rfl, er]
    have f1 : c1 (be n 4, be ck 1 ++ (be cs 1 ++ (be cn 2 ++ (be (cb.length : Nat) 2 ++ (cb ++ r)))), 0) = (be ck 1, be cs 1 ++ (be cn 2 ++ (be (cb.length : Nat) 2 ++ (cb ++ r))), 0) := nx_back _ _ _ 1 rfl (by rw [be_length]; rfl)
    have f2 : c2 (be n 4, be ck 1 ++ (be cs 1 ++ (be cn 2 ++ (be (cb.length : Nat) 2 ++ (cb ++ r)))), 0) = (be cs 1, be cn 2 ++ (be (cb.length : Nat) 2 ++ (cb ++ r)), 0) := by
      unfold c2; rw [f1]; exact nx_back _ _ _ 1 rfl (by rw [be_length]; rfl)
    have f3 : c3 (be n 4, be ck 1 ++ (be cs 1 ++ (be cn 2 ++ (be (cb.length : Nat) 2 ++ (cb ++ r)))), 0) = (be cn 2, be (cb.length : Nat) 2 ++ (cb ++ r), 0) := by
      unfold c3; rw [f2]; exact nx_back _ _ _ 2 rfl (by rw [be_length]; rfl)
    have f4 : c4 (be n 4, be ck 1 ++ (be cs 1 ++ (be cn 2 ++ (be (cb.length : Nat) 2 ++ (cb ++ r)))), 0) = (be (cb.length : Nat) 2, cb ++ r, 0) := by
      unfold c4; rw [f3]; exact nx_back _ _ _ 2 rfl (by rw [be_length]; rfl)
    have f5 : c5 (be n 4, be ck 1 ++ (be cs 1 ++ (be cn 2 ++ (be (cb.length : Nat) 2 ++ (cb ++ r)))), 0) = (cb, r, 0) := by
      unfold c5; rw [f4]; simp only; rw [unbe_be2 _ (by omega) (by omega)]; exact nb_back _ _ _ _ rfl
    rw [f1, f2, f3, f5]
    simp only
    rw [unbe_be1 _ (by omega) (by omega), unbe_be1 _ (by omega) (by omega), unbe_be2 _ (by omega) (by omega), q0]
  · rw [if_neg k1]
    by_cases k2 : kind = 10
    · subst k2
      obtain ⟨q1, q2, q3, q4⟩ := h0 k1
      have er : restA ⟨10, side, ck, cs, cn, cb, n, raw⟩ ++ r = be (raw.length : Nat) 2 ++ (raw ++ r) := by
        unfold restA; rw [if_neg (by show ¬ (10 : Int) = 1; decide), if_pos rfl]; simp
      have hl := hr rfl
      rw [if_pos rfl, er]
      have f1 : r1 (be n 4, be (raw.length : Nat) 2 ++ (raw ++ r), 0) = (be (raw.length : Nat) 2, raw ++ r, 0) := nx_back _ _ _ 2 rfl (by rw [be_length]; rfl)
      have f2 : r2 (be n 4, be (raw.length : Nat) 2 ++ (raw ++ r), 0) = (raw, r, 0) := by
        unfold r2; rw [f1]; simp only; rw [unbe_be2 _ (by omega) (by omega)]; exact nb_back _ _ _ _ rfl
      rw [f2, q1, q2, q3, q4]
    · obtain ⟨q1, q2, q3, q4⟩ := h0 k1
      have er : restA ⟨kind, side, ck, cs, cn, cb, n, raw⟩ ++ r = r := by
        unfold restA; rw [if_neg k1, if_neg k2]; rfl
      rw [if_neg k2, er, q1, q2, q3, q4, hw k2]
theorem U8_back' (x : Int) (hx : 0 ≤ x) (c : UInt8) : U8 (x * 256 + c.toNat) = c := by
  apply UInt8.toNat.inj
  have h1 := U8_toNat (x * 256 + c.toNat) (by omega)
  have h2 := c.toNat_lt
  omega
theorem be_unbe' : ∀ (n : Nat) (l : List UInt8), l.length = n → be (unbe l) n = l
  | 0, l, h => by
    rw [List.eq_nil_of_length_eq_zero h]
    rfl
  | n + 1, l, h => by
    obtain ⟨m, c, rfl⟩ : ∃ m c, l = m ++ [c] := ⟨l.dropLast, l.getLast (by intro e; subst e; simp at h), (List.dropLast_concat_getLast _).symm⟩
    have hm : m.length = n := by simpa using h
    have hu := (unbe_lt m).1
    have hc := c.toNat_lt
    rw [be, unbe_snoc, U8_back' _ hu, show (unbe m * 256 + (c.toNat : Int)) / 256 = unbe m by omega, be_unbe' n m hm]
/-- What is read are the bytes of what is read. -/
theorem one_enc {l : List UInt8} (h : (oneC l).2.2 = 0) : encA (oneC l).1 ++ (oneC l).2.1 = l ∧ 6 ≤ (encA (oneC l).1).length := by
  have key : (h3 l).2.2 = 0 → l = be (unbe (h1 l).1) 1 ++ (be (unbe (h2 l).1) 1 ++ (be (unbe (h3 l).1) 4 ++ (h3 l).2.1)) := fun h => by
    obtain ⟨a1, a2, a3⟩ := nx_ok (t := h2 l) (n := 4) rfl h
    obtain ⟨b1, b2, b3⟩ := nx_ok (t := h1 l) (n := 1) rfl a1
    obtain ⟨d1, d2, d3⟩ := nx_ok (t := ([], l, 0)) (n := 1) rfl b1
    rw [show be (unbe (h1 l).1) 1 = (h1 l).1 from be_unbe' 1 _ d3, show be (unbe (h2 l).1) 1 = (h2 l).1 from be_unbe' 1 _ b3, show be (unbe (h3 l).1) 4 = (h3 l).1 from be_unbe' 4 _ a3]
    show l = (nx ([], l, 0) 1).1 ++ ((nx (h1 l) 1).1 ++ ((nx (h2 l) 4).1 ++ (nx (h2 l) 4).2.1))
    rw [← a2, show (h2 l) = nx (h1 l) 1 from rfl, ← b2]
    exact d2
  unfold oneC at h ⊢
  split
  · rename_i k1
    rw [if_pos k1] at h
    obtain ⟨a1, a2, a3⟩ := nb_ok (t := c4 (h3 l)) h
    obtain ⟨b1, b2, b3⟩ := nx_ok (t := c3 (h3 l)) (n := 2) rfl a1
    obtain ⟨d1, d2, d3⟩ := nx_ok (t := c2 (h3 l)) (n := 2) rfl b1
    obtain ⟨e1, e2, e3⟩ := nx_ok (t := c1 (h3 l)) (n := 1) rfl d1
    obtain ⟨f1, f2, f3⟩ := nx_ok (t := h3 l) (n := 1) rfl e1
    have hk := key f1
    rw [k1] at hk
    have hu := (unbe_lt (c4 (h3 l)).1).1
    have hlen : (((c5 (h3 l)).1.length : Nat) : Int) = unbe (c4 (h3 l)).1 := by
      have : (c5 (h3 l)).1.length = (unbe (c4 (h3 l)).1).toNat := a3
      omega
    simp only
    have er : restA ⟨1, unbe (h2 l).1, unbe (c1 (h3 l)).1, unbe (c2 (h3 l)).1, unbe (c3 (h3 l)).1, (c5 (h3 l)).1, unbe (h3 l).1, []⟩ = (c1 (h3 l)).1 ++ ((c2 (h3 l)).1 ++ ((c3 (h3 l)).1 ++ ((c4 (h3 l)).1 ++ (c5 (h3 l)).1))) := by
      unfold restA
      rw [if_pos rfl]
      simp only
      rw [hlen, show be (unbe (c1 (h3 l)).1) 1 = (c1 (h3 l)).1 from be_unbe' 1 _ f3, show be (unbe (c2 (h3 l)).1) 1 = (c2 (h3 l)).1 from be_unbe' 1 _ e3, show be (unbe (c3 (h3 l)).1) 2 = (c3 (h3 l)).1 from be_unbe' 2 _ d3, show be (unbe (c4 (h3 l)).1) 2 = (c4 (h3 l)).1 from be_unbe' 2 _ b3]
      simp
    refine ⟨?_, ?_⟩
    · unfold encA
      rw [er]
      simp only
      conv => rhs; rw [hk]
      have t1 : (h3 l).2.1 = (c1 (h3 l)).1 ++ ((c2 (h3 l)).1 ++ ((c3 (h3 l)).1 ++ ((c4 (h3 l)).1 ++ ((c5 (h3 l)).1 ++ (c5 (h3 l)).2.1)))) := by
        show (h3 l).2.1 = (nx (h3 l) 1).1 ++ ((nx (c1 (h3 l)) 1).1 ++ ((nx (c2 (h3 l)) 2).1 ++ ((nx (c3 (h3 l)) 2).1 ++ ((nb (c4 (h3 l)) (unbe (c4 (h3 l)).1)).1 ++ (nb (c4 (h3 l)) (unbe (c4 (h3 l)).1)).2.1))))
        rw [← a2, show c4 (h3 l) = nx (c3 (h3 l)) 2 from rfl, ← b2, show c3 (h3 l) = nx (c2 (h3 l)) 2 from rfl, ← d2, show c2 (h3 l) = nx (c1 (h3 l)) 1 from rfl, ← e2, show c1 (h3 l) = nx (h3 l) 1 from rfl, ← f2]
      rw [t1]
      simp
    · unfold encA
      simp [be_length]
      omega
  · rename_i k1
    rw [if_neg k1] at h
    split
    · rename_i k2
      rw [if_pos k2] at h
      obtain ⟨a1, a2, a3⟩ := nb_ok (t := r1 (h3 l)) h
      obtain ⟨b1, b2, b3⟩ := nx_ok (t := h3 l) (n := 2) rfl a1
      have hk := key b1
      rw [k2] at hk
      have hu := (unbe_lt (r1 (h3 l)).1).1
      have hlen : (((r2 (h3 l)).1.length : Nat) : Int) = unbe (r1 (h3 l)).1 := by
        have : (r2 (h3 l)).1.length = (unbe (r1 (h3 l)).1).toNat := a3
        omega
      simp only
      have er : restA ⟨10, unbe (h2 l).1, 0, 0, 0, [], unbe (h3 l).1, (r2 (h3 l)).1⟩ = (r1 (h3 l)).1 ++ (r2 (h3 l)).1 := by
        unfold restA
        rw [if_neg (by show ¬ (10 : Int) = 1; decide), if_pos rfl]
        simp only
        rw [hlen, show be (unbe (r1 (h3 l)).1) 2 = (r1 (h3 l)).1 from be_unbe' 2 _ b3]
      refine ⟨?_, ?_⟩
      · unfold encA
        rw [er]
        simp only
        conv => rhs; rw [hk]
        have t1 : (h3 l).2.1 = (r1 (h3 l)).1 ++ ((r2 (h3 l)).1 ++ (r2 (h3 l)).2.1) := by
          show (h3 l).2.1 = (nx (h3 l) 2).1 ++ ((nb (r1 (h3 l)) (unbe (r1 (h3 l)).1)).1 ++ (nb (r1 (h3 l)) (unbe (r1 (h3 l)).1)).2.1)
          rw [← a2, show r1 (h3 l) = nx (h3 l) 2 from rfl, ← b2]
        rw [t1]
        simp
      · unfold encA
        simp [be_length]
        omega
    · rename_i k2
      rw [if_neg k2] at h
      have hk := key h
      simp only
      have er : restA ⟨unbe (h1 l).1, unbe (h2 l).1, 0, 0, 0, [], unbe (h3 l).1, []⟩ = [] := by
        unfold restA
        simp only
        rw [if_neg k1, if_neg k2]
      refine ⟨?_, ?_⟩
      · unfold encA
        rw [er]
        simp only
        conv => rhs; rw [hk]
        simp
      · unfold encA
        simp [be_length]
        omega
theorem putAE_zero {l : List Ac} (h : putAE l = 0) : l.length ≤ 1024 ∧ ∀ a ∈ l, mayA a = true := by
  unfold putAE at h
  split at h
  · cases h
  · split at h
    · rename_i h1 h2
      exact ⟨by omega, by simpa using h2⟩
    · cases h
theorem rdL_back : ∀ (m : List Ac) (out : List Ac) (f : Nat), (∀ a ∈ m, mayA a = true) → out.length + m.length ≤ 1024 → (m.flatMap encA).length < f → rdL f (m.flatMap encA) out = some (out ++ m)
  | [], out, f + 1, _, _, _ => by simp [rdL]
  | a :: m, out, f + 1, hm, hl, hf => by
    have ha := hm a (by simp)
    have ho := one_back ha (m.flatMap encA)
    have hne : 6 ≤ (encA a).length := by
      have := one_enc (l := encA a ++ m.flatMap encA) (by rw [ho])
      rw [ho] at this
      exact this.2
    rw [List.flatMap_cons] at hf ⊢
    rw [List.length_append] at hf
    simp only [List.length_cons] at hl
    unfold rdL
    rw [if_neg (by intro e; rw [List.append_eq_nil_iff] at e; rw [e.1] at hne; simp at hne), ho]
    simp only
    rw [if_neg (by rw [ha]; simp; omega), rdL_back m (out ++ [a]) f (fun b hb => hm b (by simp [hb])) (by rw [List.length_append]; simp; omega) (by omega)]
    simp
theorem rdL_enc : ∀ (f : Nat) (l : List UInt8) (out o : List Ac), rdL f l out = some o → (∀ a ∈ out, mayA a = true) → out.length ≤ 1024 → (∀ a ∈ o, mayA a = true) ∧ o.length ≤ 1024 ∧ o.flatMap encA = out.flatMap encA ++ l
  | 0, _, _, _, h, _, _ => by cases h
  | f + 1, l, out, o, h, hm, hl => by
    unfold rdL at h
    split at h
    · rename_i hn
      cases h
      subst hn
      exact ⟨hm, hl, by simp⟩
    · split at h
      · cases h
      · rename_i hc
        have h0 : (oneC l).2.2 = 0 := by
          apply Classical.byContradiction
          intro e; exact hc (.inl e)
        have hmay : mayA (oneC l).1 = true := by
          cases e : mayA (oneC l).1 with
          | true => rfl
          | false => exact absurd (.inr (.inl e)) hc
        have hne : out.length ≠ 1024 := fun e => hc (.inr (.inr e))
        have he := one_enc h0
        obtain ⟨r1, r2, r3⟩ := rdL_enc f _ _ _ h (fun a ha => by
          rcases List.mem_append.1 ha with ha | ha
          · exact hm a ha
          · simp at ha; subst ha; exact hmay) (by rw [List.length_append]; simp; omega)
        refine ⟨r1, r2, ?_⟩
        rw [r3]
        conv => rhs; rw [← he.1]
        simp
theorem readA_put {l : List Ac} (h : putAE l = 0) : readA (putAS l) = some l := by
  obtain ⟨h1, h2⟩ := putAE_zero h
  unfold putAS readA
  rw [if_pos h]
  have := rdL_back l [] ((l.flatMap encA).length + 1) h2 (by simpa using h1) (Nat.lt_succ_self _)
  simpa using this
theorem put_readA {l : List UInt8} {o : List Ac} (h : readA l = some o) : putAE o = 0 ∧ putAS o = l := by
  obtain ⟨h1, h2, h3⟩ := rdL_enc _ _ _ _ h (by simp) (by simp)
  have e : putAE o = 0 := by
    unfold putAE
    rw [if_neg (by omega), if_pos (by simpa using h1)]
  refine ⟨e, ?_⟩
  unfold putAS
  rw [if_pos e, h3]
  rfl
end Go.Proofs.Ytdjjienklfbalaa
