/-
  Merged: Datagrams (chapter 10): plain: which may be, their bytes, what bytes say. | Datagrams (chapter 10): plain laws: they come back from their bytes; bytes that are read are just those; one changed bit is seen. | Datagrams: how a kind is; which shards may be: contracts (chapter 10). | Datagrams: what each kind asks of its fields, and just the fields that it has: contracts (chapter 10). | Datagrams: just the fields that a kind has; what a kind asks; a kind's bytes: contracts (chapter 10). | Datagrams: what a kind asks; a kind's bytes: contracts (chapter 10). | Datagrams: a shard's bytes; whether a datagram may be: contracts (chapter 10).
-/
import Derived.Test.YtnmlmpffmjhihaaGreatMO
import Derived.Test.YtnmlmpffmjhihaaGreatMA
import Derived.Laws.EntriesVeiled
import Derived.BigRegion
import Derived.Outline
import Derived.Deep.DrawnRows
import Derived.Deep.RegionHeld3
namespace Go.Proofs.YtnmlmpffmjhihaaGreat
set_option linter.unusedVariables false
structure Dg where
  kind : Int
  stream : Int
  block : Int
  index : Int
  k : Int
  n : Int
  len : Int
  credit : Int
  have' : List UInt8
  body : List UInt8
def dg0 : Dg := ⟨0, 0, 0, 0, 0, 0, 0, 0, [], []⟩
def Dg.vals (d : Dg) : List Value := [.int .i64 d.kind, .int .i64 d.stream, .int .u32 d.block, .int .i64 d.index, .int .i64 d.k, .int .i64 d.n, .int .i64 d.len, .int .i64 d.credit, Str d.have', Str d.body]
abbrev Dg.val (d : Dg) : Value := .agg #[.int .i64 d.kind, .int .i64 d.stream, .int .u32 d.block, .int .i64 d.index, .int .i64 d.k, .int .i64 d.n, .int .i64 d.len, .int .i64 d.credit, Str d.have', Str d.body]
instance : DecidableEq Dg := fun a b =>
  if h : a.kind = b.kind ∧ a.stream = b.stream ∧ a.block = b.block ∧ a.index = b.index ∧ a.k = b.k ∧ a.n = b.n ∧ a.len = b.len ∧ a.credit = b.credit ∧ a.have' = b.have' ∧ a.body = b.body then
    isTrue (by
      cases a; cases b
      simp only at h
      obtain ⟨h1, h2, h3, h4, h5, h6, h7, h8, h9, h10⟩ := h
      subst h1 h2 h3 h4 h5 h6 h7 h8 h9 h10
      rfl)
  else isFalse (fun e => h (by subst e; simp))
def isSh (z : Int) : Bool := z == 1 || z == 2
/-- Just the fields that a kind has. -/
def ownD (d : Dg) : Dg :=
  if d.kind = 1 ∨ d.kind = 2 then ⟨d.kind, d.stream, d.block, d.index, d.k, d.n, d.len, 0, [], d.body⟩
  else if d.kind = 3 then ⟨d.kind, d.stream, d.block, 0, 0, 0, 0, 0, d.have', []⟩
  else if d.kind = 4 then ⟨d.kind, d.stream, d.block, 0, 0, 0, 0, d.credit, [], []⟩
  else ⟨d.kind, d.stream, d.block, 0, 0, 0, 0, 0, [], []⟩
/-- A shard's fields. -/
def shE (d : Dg) : Int :=
  if d.k < 1 ∨ 32 < d.k ∨ d.n < d.k ∨ 255 < d.n ∨ d.index < 0 ∨ d.n ≤ d.index then 2
  else if (decide (d.index < d.k) != (d.kind == 1)) = true ∨ d.len < 1 ∨ 32768 < d.len then 2
  else if (d.body.length : Int) ≠ (d.len - 1) / d.k + 1 ∨ 1024 < (d.body.length : Int) then 3
  else 0
def kdE (d : Dg) : Int :=
  if d.kind = 1 ∨ d.kind = 2 then shE d
  else if d.kind = 3 then (if d.have'.length = 32 then 0 else 5)
  else if d.kind = 4 then (if d.credit < 0 ∨ 65535 < d.credit then 2 else 0)
  else 0
def dgE (d : Dg) : Int :=
  if d.kind < 1 ∨ 6 < d.kind then 1
  else if d.stream < 0 ∨ 255 < d.stream then 2
  else if kdE d ≠ 0 then kdE d
  else if ownD d ≠ d then 5 else 0
/-- What is behind the head. -/
def restS (d : Dg) : List UInt8 :=
  if d.kind = 1 ∨ d.kind = 2 then be d.index 1 ++ be d.k 1 ++ be d.n 1 ++ be (d.len - 1) 2 ++ d.body
  else if d.kind = 3 then d.have'
  else if d.kind = 4 then be d.credit 2
  else []
def rawS (d : Dg) : List UInt8 := [76, 83] ++ be d.kind 1 ++ be d.stream 1 ++ be d.block 4 ++ restS d
def dgS (d : Dg) : List UInt8 := if dgE d = 0 then rawS d ++ be (crcS (rawS d) : Nat) 4 else []
/-- What is read behind the head. -/
def fieldsD (d : Dg) (l : List UInt8) : Dg × Int :=
  if d.kind = 1 ∨ d.kind = 2 then
    (if l.length < 5 then (d, 4) else ({ d with index := unbe (l.take 1), k := unbe ((l.drop 1).take 1), n := unbe ((l.drop 2).take 1), len := unbe ((l.drop 3).take 2) + 1, body := l.drop 5 }, 0))
  else if d.kind = 3 then
    (if l.length < 32 then (d, 4) else ({ d with have' := l.take 32 }, if l.length = 32 then 0 else 5))
  else if d.kind = 4 then
    (if l.length < 2 then (d, 4) else ({ d with credit := unbe (l.take 2) }, if l.length = 2 then 0 else 5))
  else (d, if l = [] then 0 else 5)
def headD (l : List UInt8) : Dg := ⟨unbe ((l.drop 2).take 1), unbe ((l.drop 3).take 1), unbe ((l.drop 4).take 4), 0, 0, 0, 0, 0, [], []⟩
/-- Of bytes whose sum is right: why they are none. -/
def bodyE (b : List UInt8) : Int :=
  if b.take 2 ≠ [76, 83] then 5
  else if (headD b).kind < 1 ∨ 6 < (headD b).kind then 1
  else if (fieldsD (headD b) (b.drop 8)).2 ≠ 0 then (fieldsD (headD b) (b.drop 8)).2
  else dgE (fieldsD (headD b) (b.drop 8)).1
def readE (l : List UInt8) : Int :=
  if l.length < 12 then 4
  else if unbe (l.drop (l.length - 4)) ≠ (crcS (l.take (l.length - 4)) : Nat) then 6
  else bodyE (l.take (l.length - 4))
def readD (l : List UInt8) : Dg := if readE l = 0 then (fieldsD (headD (l.take (l.length - 4))) ((l.take (l.length - 4)).drop 8)).1 else dg0
end Go.Proofs.YtnmlmpffmjhihaaGreat
namespace Go.Proofs.YtnmlmpffmjhihaaGreat
set_option linter.unusedVariables false
theorem U8_back (x : Int) (hx : 0 ≤ x) (c : UInt8) : U8 (x * 256 + c.toNat) = c := by
  apply UInt8.toNat.inj
  have h1 := U8_toNat (x * 256 + c.toNat) (by omega)
  have h2 := u8_lt c
  omega
theorem be_unbe : ∀ (n : Nat) (l : List UInt8), l.length = n → be (unbe l) n = l
  | 0, l, h => by
    rw [List.eq_nil_of_length_eq_zero h]
    rfl
  | n + 1, l, h => by
    obtain ⟨m, c, rfl⟩ : ∃ m c, l = m ++ [c] := ⟨l.dropLast, l.getLast (by intro e; subst e; simp at h), (List.dropLast_concat_getLast _).symm⟩
    have hm : m.length = n := by simpa using h
    have hu := (unbe_lt m).1
    have hc := u8_lt c
    rw [be, unbe_snoc, U8_back _ hu, show (unbe m * 256 + (c.toNat : Int)) / 256 = unbe m by omega, be_unbe n m hm]
theorem unbe1 (x : Int) (h0 : 0 ≤ x) (h1 : x < 256) : unbe [U8 x] = x := by
  have := unbe_be x h0 1
  rw [be1] at this
  rw [this]
  omega
theorem unbe_be4 (x : Int) (h0 : 0 ≤ x) (h1 : x < 4294967296) : unbe (be x 4) = x := by
  rw [unbe_be x h0 4]
  omega
theorem unbe_be2 (x : Int) (h0 : 0 ≤ x) (h1 : x < 65536) : unbe (be x 2) = x := by
  rw [unbe_be x h0 2]
  omega
/-- What of a datagram comes out of memory. -/
structure Dg.ok (d : Dg) : Prop where
  b0 : 0 ≤ d.block
  b1 : d.block < 4294967296
theorem dgE_zero {d : Dg} (h : dgE d = 0) : (1 ≤ d.kind ∧ d.kind ≤ 6) ∧ (0 ≤ d.stream ∧ d.stream ≤ 255) ∧ kdE d = 0 ∧ ownD d = d := by
  unfold dgE at h
  split at h
  · cases h
  · split at h
    · cases h
    · split at h
      · rename_i hk; exact absurd h hk
      · split at h
        · cases h
        · rename_i h1 h2 h3 h4
          exact ⟨by omega, by omega, by simpa using h3, by simpa using h4⟩
theorem shE_zero {d : Dg} (h : shE d = 0) : (1 ≤ d.k ∧ d.k ≤ 32) ∧ (d.k ≤ d.n ∧ d.n ≤ 255) ∧ (0 ≤ d.index ∧ d.index < d.n) ∧ (1 ≤ d.len ∧ d.len ≤ 32768) ∧ (d.body.length : Int) ≤ 1024 := by
  unfold shE at h
  split at h
  · cases h
  · split at h
    · cases h
    · split at h
      · cases h
      · rename_i h1 h2 h3
        omega
theorem dgE_ok {d : Dg} (h1 : 1 ≤ d.kind ∧ d.kind ≤ 6) (h2 : 0 ≤ d.stream ∧ d.stream ≤ 255) (h3 : kdE d = 0) (h4 : ownD d = d) : dgE d = 0 := by
  unfold dgE
  rw [if_neg (by omega), if_neg (by omega), if_neg (by omega), if_neg (by simpa using h4)]
theorem raw_head (d : Dg) : rawS d = 76 :: 83 :: U8 d.kind :: U8 d.stream :: (be d.block 4 ++ restS d) := by
  unfold rawS
  simp [be1]
theorem raw_drop (d : Dg) : (rawS d).drop 8 = restS d := by
  rw [raw_head, be4]
  rfl
theorem raw_headD (d : Dg) (hd : d.ok) (h1 : 1 ≤ d.kind ∧ d.kind ≤ 6) (h2 : 0 ≤ d.stream ∧ d.stream ≤ 255) : headD (rawS d) = ⟨d.kind, d.stream, d.block, 0, 0, 0, 0, 0, [], []⟩ := by
  unfold headD
  have e1 : ((rawS d).drop 2).take 1 = [U8 d.kind] := by rw [raw_head]; rfl
  have e2 : ((rawS d).drop 3).take 1 = [U8 d.stream] := by rw [raw_head]; rfl
  have e3 : ((rawS d).drop 4).take 4 = be d.block 4 := by rw [raw_head, be4]; rfl
  rw [e1, e2, e3, unbe1 _ (by omega) (by omega), unbe1 _ (by omega) (by omega), unbe_be4 _ hd.b0 hd.b1]
theorem raw_len (d : Dg) : (rawS d).length = 8 + (restS d).length := by
  rw [raw_head]
  simp [be_length]
  omega
/-- The fields come back. -/
theorem fields_back {d : Dg} (h3 : kdE d = 0) (h4 : ownD d = d) : fieldsD ⟨d.kind, d.stream, d.block, 0, 0, 0, 0, 0, [], []⟩ (restS d) = (d, 0) := by
  obtain ⟨kind, stream, block, index, k, n, len, credit, hv, body⟩ := d
  unfold fieldsD restS
  unfold kdE at h3
  unfold ownD at h4
  by_cases c1 : kind = 1 ∨ kind = 2
  · simp only [if_pos c1] at h3 h4 ⊢
    obtain ⟨a1, a2, a3, a4, a5⟩ := shE_zero h3
    simp only at a1 a2 a3 a4 a5
    have hcr : credit = 0 := by injection h4 with _ _ _ _ _ _ _ e; exact e.symm
    have hhv : hv = [] := by injection h4 with _ _ _ _ _ _ _ _ e; exact e.symm
    subst hcr hhv
    have e5 : be index 1 ++ be k 1 ++ be n 1 ++ be (len - 1) 2 ++ body = U8 index :: U8 k :: U8 n :: (be (len - 1) 2 ++ body) := by simp [be1]
    rw [e5, if_neg (by simp [be_length])]
    have f1 : unbe ((U8 index :: U8 k :: U8 n :: (be (len - 1) 2 ++ body)).take 1) = index := unbe1 _ (by omega) (by omega)
    have f2 : unbe (((U8 index :: U8 k :: U8 n :: (be (len - 1) 2 ++ body)).drop 1).take 1) = k := unbe1 _ (by omega) (by omega)
    have f3 : unbe (((U8 index :: U8 k :: U8 n :: (be (len - 1) 2 ++ body)).drop 2).take 1) = n := unbe1 _ (by omega) (by omega)
    have f4 : unbe (((U8 index :: U8 k :: U8 n :: (be (len - 1) 2 ++ body)).drop 3).take 2) = len - 1 := by
      show unbe ((be (len - 1) 2 ++ body).take 2) = len - 1
      rw [List.take_left' (be_length _ _), unbe_be2 _ (by omega) (by omega)]
    have f5 : (U8 index :: U8 k :: U8 n :: (be (len - 1) 2 ++ body)).drop 5 = body := by
      show (be (len - 1) 2 ++ body).drop 2 = body
      exact List.drop_left' (be_length _ _)
    rw [f1, f2, f3, f4, f5, show len - 1 + 1 = len by omega]
  · simp only [if_neg c1] at h3 h4 ⊢
    by_cases c2 : kind = 3
    · simp only [if_pos c2] at h3 h4 ⊢
      have hl : hv.length = 32 := by
        split at h3
        · assumption
        · cases h3
      rw [if_neg (by omega), if_pos hl, List.take_of_length_le (by omega)]
      injection h4 with _ _ _ e1 e2 e3 e4 e5 _ e6
      subst e1 e2 e3 e4 e5 e6
      rfl
    · simp only [if_neg c2] at h3 h4 ⊢
      by_cases c3 : kind = 4
      · simp only [if_pos c3] at h3 h4 ⊢
        have hc : 0 ≤ credit ∧ credit ≤ 65535 := by
          split at h3
          · cases h3
          · omega
        rw [if_neg (by rw [be_length]; omega), if_pos (be_length _ _), List.take_of_length_le (by rw [be_length]; omega), unbe_be2 _ (by omega) (by omega)]
        injection h4 with _ _ _ e1 e2 e3 e4 _ e5 e6
        subst e1 e2 e3 e4 e5 e6
        rfl
      · simp only [if_neg c3] at h3 h4 ⊢
        simp only [if_true]
        injection h4 with _ _ _ e1 e2 e3 e4 e5 e6 e7
        subst e1 e2 e3 e4 e5 e6 e7
        rfl
theorem dgS_ok {d : Dg} (h : dgE d = 0) : dgS d = rawS d ++ be (crcS (rawS d) : Nat) 4 := by unfold dgS; rw [if_pos h]
theorem dgS_len {d : Dg} (h : dgE d = 0) : (dgS d).length = (rawS d).length + 4 ∧ 8 ≤ (rawS d).length := by
  rw [dgS_ok h, List.length_append, be_length, raw_len]
  omega
theorem dg_back {d : Dg} (hd : d.ok) (h : dgE d = 0) : readE (dgS d) = 0 ∧ readD (dgS d) = d := by
  obtain ⟨h1, h2, h3, h4⟩ := dgE_zero h
  have hl := dgS_len h
  have hE : (fieldsD (headD (rawS d)) ((rawS d).drop 8)) = (d, 0) := by
    rw [raw_headD d hd h1 h2, raw_drop]
    exact fields_back h3 h4
  have ht : (dgS d).take ((dgS d).length - 4) = rawS d := by
    rw [hl.1, Nat.add_sub_cancel, dgS_ok h]
    exact List.take_left' rfl
  have hdr : (dgS d).drop ((dgS d).length - 4) = be (crcS (rawS d) : Nat) 4 := by
    rw [hl.1, Nat.add_sub_cancel, dgS_ok h]
    exact List.drop_left' rfl
  have hc := crcS_lt (rawS d)
  have e0 : readE (dgS d) = 0 := by
    unfold readE
    rw [if_neg (by omega), hdr, ht, unbe_be4 _ (by omega) (by omega), if_neg (by simp)]
    unfold bodyE
    rw [hE, if_neg (by rw [raw_head]; simp), if_neg (by rw [raw_headD d hd h1 h2]; show ¬ (d.kind < 1 ∨ 6 < d.kind); omega)]
    simpa using h
  refine ⟨e0, ?_⟩
  unfold readD
  rw [if_pos e0, ht, hE]
theorem list_cons8 {l : List UInt8} (h : 8 ≤ l.length) : ∃ a b c d e f g i r, l = a :: b :: c :: d :: e :: f :: g :: i :: r := by
  match l, h with
  | a :: b :: c :: d :: e :: f :: g :: i :: r, _ => exact ⟨a, b, c, d, e, f, g, i, r, rfl⟩
theorem be_one (c : UInt8) : be (unbe [c]) 1 = [c] := be_unbe 1 [c] rfl
/-- The fields' bytes are the bytes. -/
theorem rest_back {d : Dg} {l : List UInt8} (h : (fieldsD d l).2 = 0) : restS (fieldsD d l).1 = l ∧ (fieldsD d l).1.kind = d.kind ∧ (fieldsD d l).1.stream = d.stream ∧ (fieldsD d l).1.block = d.block := by
  unfold fieldsD at h ⊢
  by_cases c1 : d.kind = 1 ∨ d.kind = 2
  · simp only [if_pos c1] at h ⊢
    by_cases hl : l.length < 5
    · rw [if_pos hl] at h; cases h
    · rw [if_neg hl]
      refine ⟨?_, rfl, rfl, rfl⟩
      unfold restS
      simp only [if_pos c1]
      match l, hl with
      | a :: b :: c :: x :: y :: r, _ =>
        show be (unbe [a]) 1 ++ be (unbe [b]) 1 ++ be (unbe [c]) 1 ++ be (unbe [x, y] + 1 - 1) 2 ++ r = _
        rw [be_one, be_one, be_one, show unbe [x, y] + 1 - 1 = unbe [x, y] by omega, be_unbe 2 [x, y] rfl]
        rfl
      | [], h' => exact absurd (by decide) h'
      | [_], h' => exact absurd (by simp) h'
      | [_, _], h' => exact absurd (by simp) h'
      | [_, _, _], h' => exact absurd (by simp) h'
      | [_, _, _, _], h' => exact absurd (by simp) h'
  · simp only [if_neg c1] at h ⊢
    by_cases c2 : d.kind = 3
    · simp only [if_pos c2] at h ⊢
      by_cases hl : l.length < 32
      · rw [if_pos hl] at h; cases h
      · rw [if_neg hl] at h ⊢
        have hl2 : l.length = 32 := by
          apply Classical.byContradiction
          intro hne
          rw [if_neg hne] at h
          cases h
        refine ⟨?_, rfl, rfl, rfl⟩
        unfold restS
        simp only [if_neg c1, if_pos c2]
        exact List.take_of_length_le (by omega)
    · simp only [if_neg c2] at h ⊢
      by_cases c3 : d.kind = 4
      · simp only [if_pos c3] at h ⊢
        by_cases hl : l.length < 2
        · rw [if_pos hl] at h; cases h
        · rw [if_neg hl] at h ⊢
          have hl2 : l.length = 2 := by
            apply Classical.byContradiction
            intro hne
            rw [if_neg hne] at h
            cases h
          refine ⟨?_, rfl, rfl, rfl⟩
          unfold restS
          simp only [if_neg c1, if_neg c2, if_pos c3]
          rw [List.take_of_length_le (by omega)]
          exact be_unbe 2 l hl2
      · simp only [if_neg c3] at h ⊢
        refine ⟨?_, trivial, trivial, trivial⟩
        unfold restS
        simp only [if_neg c1, if_neg c2, if_neg c3]
        have : l = [] := by
          apply Classical.byContradiction
          intro hne
          rw [if_neg hne] at h
          cases h
        exact this.symm
theorem read_back {l : List UInt8} (h : readE l = 0) : dgE (readD l) = 0 ∧ dgS (readD l) = l := by
  have h0 := h
  unfold readE at h
  split at h
  · cases h
  · rename_i hlen
    split at h
    · cases h
    · rename_i hsum
      generalize hb : l.take (l.length - 4) = b at *
      have hbl : b.length = l.length - 4 := by rw [← hb, List.length_take]; omega
      unfold bodyE at h
      split at h
      · cases h
      · rename_i h2
        split at h
        · cases h
        · rename_i hk
          split at h
          · rename_i hf; exact absurd h hf
          · rename_i hf
            have hf0 : (fieldsD (headD b) (b.drop 8)).2 = 0 := by simpa using hf
            have hD : readD l = (fieldsD (headD b) (b.drop 8)).1 := by unfold readD; rw [if_pos h0, hb]
            rw [hD]
            refine ⟨h, ?_⟩
            rw [dgS_ok h]
            obtain ⟨r1, r2, r3, r4⟩ := rest_back hf0
            have hraw : rawS (fieldsD (headD b) (b.drop 8)).1 = b := by
              unfold rawS
              rw [r1, r2, r3, r4]
              obtain ⟨x1, x2, x3, x4, x5, x6, x7, x8, r, rfl⟩ := list_cons8 (l := b) (by omega)
              have h2' : [x1, x2] = [76, 83] := by simpa using h2
              injection h2' with e1 e2
              injection e2 with e2
              subst e1 e2
              show [76, 83] ++ be (unbe [x3]) 1 ++ be (unbe [x4]) 1 ++ be (unbe [x5, x6, x7, x8]) 4 ++ r = _
              rw [be_one, be_one, be_unbe 4 [x5, x6, x7, x8] rfl]
              rfl
            rw [hraw]
            have hs : unbe (l.drop (l.length - 4)) = (crcS b : Nat) := by simpa using hsum
            rw [← hs, be_unbe 4 _ (by rw [List.length_drop]; omega), ← hb]
            exact List.take_append_drop _ _
/-- One byte is another: it is refused by its sum. -/
theorem bit_seen {d : Dg} (h : dgE d = 0) (i : Nat) (hi : i < (dgS d).length) (c : UInt8) (hc : c ≠ (dgS d)[i]) : readE ((dgS d).set i c) = 6 := by
  have hl := dgS_len h
  have hcl := crcS_lt (rawS d)
  unfold readE
  rw [List.length_set, if_neg (by omega), if_pos]
  have hs := dgS_ok h
  rw [hl.1, Nat.add_sub_cancel]
  by_cases hin : i < (rawS d).length
  · have e1 : (dgS d).set i c = (rawS d).set i c ++ be (crcS (rawS d) : Nat) 4 := by
      rw [hs, List.set_append_left _ _ hin]
    have hget : (dgS d)[i] = (rawS d)[i] := by
      simp only [hs]
      rw [List.getElem_append_left hin]
    rw [e1, List.drop_left' (by simp), List.take_left' (by simp), unbe_be4 _ (by omega) (by omega)]
    intro e
    have e' : crcS (rawS d) = crcS ((rawS d).set i c) := by exact_mod_cast e
    have hsp : rawS d = (rawS d).take i ++ (rawS d)[i] :: (rawS d).drop (i + 1) := by
      rw [← List.drop_eq_getElem_cons hin, List.take_append_drop]
    have hst : (rawS d).set i c = (rawS d).take i ++ c :: (rawS d).drop (i + 1) := List.set_eq_take_append_cons_drop .. |>.trans (by rw [if_pos hin])
    rw [hst] at e'
    have hne := crcS_ne ((rawS d).take i) ((rawS d).drop (i + 1)) (rawS d)[i] c (fun e => hc (by rw [hget]; exact e.symm))
    rw [← hsp] at hne
    exact hne e'
  · have hge : (rawS d).length ≤ i := Nat.le_of_not_lt hin
    have hi4 : i - (rawS d).length < (be (crcS (rawS d) : Nat) 4).length := by rw [be_length]; omega
    have e1 : (dgS d).set i c = rawS d ++ (be (crcS (rawS d) : Nat) 4).set (i - (rawS d).length) c := by
      rw [hs, List.set_append_right _ _ hge]
    have hget : (dgS d)[i] = (be (crcS (rawS d) : Nat) 4)[i - (rawS d).length] := by
      simp only [hs]
      rw [List.getElem_append_right hge]
    rw [e1, List.drop_left' rfl, List.take_left' rfl]
    intro e
    have hb := be_unbe 4 ((be (crcS (rawS d) : Nat) 4).set (i - (rawS d).length) c) (by rw [List.length_set, be_length])
    rw [e] at hb
    have : (be (crcS (rawS d) : Nat) 4)[i - (rawS d).length] = c := by
      have h3 : ((be (crcS (rawS d) : Nat) 4).set (i - (rawS d).length) c)[i - (rawS d).length]'(by rw [List.length_set]; exact hi4) = c := by simp
      rw [← h3]
      congr 1
    exact hc (by rw [hget, this])
end Go.Proofs.YtnmlmpffmjhihaaGreat
namespace Go.Proofs.YtnmlmpffmjhihaaGreat
open Go.RowKit
set_option linter.unusedVariables false
set_option maxRecDepth 100000
set_option maxHeartbeats 1000000
abbrev fnV (n : Nat) : Value := .func (Fn.func n) #[] #[]
abbrev kdSh : Array Value := #[fnV 106, fnV 107, fnV 108, fnV 112]
abbrev kdNk : Array Value := #[fnV 114, fnV 115, fnV 116, fnV 117]
abbrev kdAk : Array Value := #[fnV 118, fnV 119, fnV 120, fnV 121]
abbrev kdPl : Array Value := #[fnV 122, fnV 123, fnV 124, fnV 113]
abbrev kdNo : Array Value := #[.nilFunc, .nilFunc, .nilFunc, .nilFunc]
def RetB (v : Value) (w : World) (e : Ending) (w' : World) : Prop := e = .returned v ∧ Below w.heap.size w w'
theorem shard_kd (w : World) : Calls Tryz.prog 92 #[] w (RetB (.agg kdSh) w) := by
  go_enter Tryz.func92, Tryz.ntmps92
  go_wp2_with fail
  exact bodyPost_ret (v := .agg kdSh) (by simp [results, go_sem]) rfl ⟨rfl, (Below.refl _ _).alloc (Nat.le_refl _) _⟩
theorem nack_kd (w : World) : Calls Tryz.prog 93 #[] w (RetB (.agg kdNk) w) := by
  go_enter Tryz.func93, Tryz.ntmps93
  go_wp2_with fail
  exact bodyPost_ret (v := .agg kdNk) (by simp [results, go_sem]) rfl ⟨rfl, (Below.refl _ _).alloc (Nat.le_refl _) _⟩
theorem ack_kd (w : World) : Calls Tryz.prog 94 #[] w (RetB (.agg kdAk) w) := by
  go_enter Tryz.func94, Tryz.ntmps94
  go_wp2_with fail
  exact bodyPost_ret (v := .agg kdAk) (by simp [results, go_sem]) rfl ⟨rfl, (Below.refl _ _).alloc (Nat.le_refl _) _⟩
theorem plain_kd (w : World) : Calls Tryz.prog 95 #[] w (RetB (.agg kdPl) w) := by
  go_enter Tryz.func95, Tryz.ntmps95
  go_wp2_with fail
  exact bodyPost_ret (v := .agg kdPl) (by simp [results, go_sem]) rfl ⟨rfl, (Below.refl _ _).alloc (Nat.le_refl _) _⟩
theorem of_end {w w1 : World} {a b c d : Value} {kd : Array Value} {A : Act} (kb : Blk w1 w.heap.size #[.nilFunc, .nilFunc, .nilFunc, .nilFunc] 153) (hB : Below w.heap.size w w1) (hk : kd = #[a, b, c, d]) (h2 : A.tmps[2]? = some (.pointer (some ⟨w.heap.size, 0, none⟩))) (h3 : A.tmps[3]? = some (.bool true)) (hd : A.defers = []) :
    bodyPost Tryz.prog Tryz.f81 (RetB (.tuple #[.agg kd, .bool true]) w) Exit.ret A ((((w1.setCell ⟨w.heap.size, 0, none⟩ a).setCell ⟨w.heap.size, 1, none⟩ b).setCell ⟨w.heap.size, 2, none⟩ c).setCell ⟨w.heap.size, 3, none⟩ d) := by
  subst hk
  have k4 := (((kb.setAt 0 a rfl).setAt 1 b rfl).setAt 2 c rfl).setAt 3 d rfl
  have hB4 := (((hB.setCell (p := ⟨w.heap.size, 0, none⟩) (Nat.le_refl _) a).setCell (p := ⟨w.heap.size, 1, none⟩) (Nat.le_refl _) b).setCell (p := ⟨w.heap.size, 2, none⟩) (Nat.le_refl _) c).setCell (p := ⟨w.heap.size, 3, none⟩) (Nat.le_refl _) d
  generalize ((((w1.setCell ⟨w.heap.size, 0, none⟩ a).setCell ⟨w.heap.size, 1, none⟩ b).setCell ⟨w.heap.size, 2, none⟩ c).setCell ⟨w.heap.size, 3, none⟩ d) = W at *
  have hc := k4.facts.1
  refine bodyPost_ret (v := .tuple #[.agg #[a, b, c, d], .bool true]) ?_ hd ⟨rfl, hB4⟩
  simp [results, go_sem, h2, h3, hc]
theorem of_sh (z : Int) (h : z = 1 ∨ z = 2) (w : World) : Calls Tryz.prog 81 #[.int .i64 z] w (RetB (.tuple #[.agg kdSh, .bool true]) w) := by
  rcases h with rfl | rfl
  all_goals
    go_enter Tryz.func81, Tryz.ntmps81
    go_wp2_with fail
    refine (shard_kd _).mono ?_
    rintro e w1 ⟨rfl, hb⟩
    have kb := (Blk.new w #[.nilFunc, .nilFunc, .nilFunc, .nilFunc] 153).below hb (by simp)
    have hB := Below.chain hb (Below.chainAlloc (Below.refl _ _) _)
    obtain ⟨hc, hfr, hl⟩ := kb.facts
    clear hb
    go_wp2_with fail
    exact of_end (kd := kdSh) kb hB rfl rfl rfl rfl
theorem of_nk (z : Int) (h : z = 3) (w : World) : Calls Tryz.prog 81 #[.int .i64 z] w (RetB (.tuple #[.agg kdNk, .bool true]) w) := by
  subst h
  all_goals
    go_enter Tryz.func81, Tryz.ntmps81
    go_wp2_with fail
    refine (nack_kd _).mono ?_
    rintro e w1 ⟨rfl, hb⟩
    have kb := (Blk.new w #[.nilFunc, .nilFunc, .nilFunc, .nilFunc] 153).below hb (by simp)
    have hB := Below.chain hb (Below.chainAlloc (Below.refl _ _) _)
    obtain ⟨hc, hfr, hl⟩ := kb.facts
    clear hb
    go_wp2_with fail
    exact of_end (kd := kdNk) kb hB rfl rfl rfl rfl
theorem of_ak (z : Int) (h : z = 4) (w : World) : Calls Tryz.prog 81 #[.int .i64 z] w (RetB (.tuple #[.agg kdAk, .bool true]) w) := by
  subst h
  all_goals
    go_enter Tryz.func81, Tryz.ntmps81
    go_wp2_with fail
    refine (ack_kd _).mono ?_
    rintro e w1 ⟨rfl, hb⟩
    have kb := (Blk.new w #[.nilFunc, .nilFunc, .nilFunc, .nilFunc] 153).below hb (by simp)
    have hB := Below.chain hb (Below.chainAlloc (Below.refl _ _) _)
    obtain ⟨hc, hfr, hl⟩ := kb.facts
    clear hb
    go_wp2_with fail
    exact of_end (kd := kdAk) kb hB rfl rfl rfl rfl
theorem of_pl (z : Int) (h : z = 5 ∨ z = 6) (w : World) : Calls Tryz.prog 81 #[.int .i64 z] w (RetB (.tuple #[.agg kdPl, .bool true]) w) := by
  rcases h with rfl | rfl
  all_goals
    go_enter Tryz.func81, Tryz.ntmps81
    go_wp2_with fail
    refine (plain_kd _).mono ?_
    rintro e w1 ⟨rfl, hb⟩
    have kb := (Blk.new w #[.nilFunc, .nilFunc, .nilFunc, .nilFunc] 153).below hb (by simp)
    have hB := Below.chain hb (Below.chainAlloc (Below.refl _ _) _)
    obtain ⟨hc, hfr, hl⟩ := kb.facts
    clear hb
    go_wp2_with fail
    exact of_end (kd := kdPl) kb hB rfl rfl rfl rfl
theorem of_no (z : Int) (h1 : z ≠ 1) (h2 : z ≠ 2) (h3 : z ≠ 3) (h4 : z ≠ 4) (h5 : z ≠ 5) (h6 : z ≠ 6) (w : World) : Calls Tryz.prog 81 #[.int .i64 z] w (RetB (.tuple #[.agg kdNo, .bool false]) w) := by
  have e1 : (z == 1) = false := by simpa using h1
  have e2 : (z == 2) = false := by simpa using h2
  have e3 : (z == 3) = false := by simpa using h3
  have e4 : (z == 4) = false := by simpa using h4
  have e5 : (z == 5) = false := by simpa using h5
  have e6 : (z == 6) = false := by simpa using h6
  clear h1 h2 h3 h4 h5 h6
  go_enter Tryz.func81, Tryz.ntmps81
  go_wp2_with fail
  exact bodyPost_ret (v := .tuple #[.agg kdNo, .bool false]) (by simp [results, go_sem]) rfl ⟨rfl, (Below.refl _ _).alloc (Nat.le_refl _) _⟩
end Go.Proofs.YtnmlmpffmjhihaaGreat
namespace Go.Proofs.YtnmlmpffmjhihaaGreat
open Go.RowKit
set_option linter.unusedVariables false
set_option maxRecDepth 100000
set_option maxHeartbeats 1000000
attribute [local go_sem ↓] Go.wp_at_zero Go.wp_at_succ
structure Dg.len' (d : Dg) : Prop where
  h : d.have'.length ≤ 9223372036854775807
  b : d.body.length ≤ 9223372036854775807
theorem head_any (kind stream block index k n len credit : Int) (hv body : List UInt8) (w : World) : Calls Tryz.prog 113 #[.agg #[.int .i64 kind, .int .i64 stream, .int .u32 block, .int .i64 index, .int .i64 k, .int .i64 n, .int .i64 len, .int .i64 credit, Str hv, Str body]] w
    (RetB (.agg #[.int .i64 kind, .int .i64 stream, .int .u32 block, .int .i64 0, .int .i64 0, .int .i64 0, .int .i64 0, .int .i64 0, .string ⟨#[]⟩, .string ⟨#[]⟩]) w) := by
  go_enter Tryz.func113, Tryz.ntmps113
  go_wp2_with fail
  exact bodyPost_ret (v := .agg #[.int .i64 kind, .int .i64 stream, .int .u32 block, .int .i64 0, .int .i64 0, .int .i64 0, .int .i64 0, .int .i64 0, .string ⟨#[]⟩, .string ⟨#[]⟩]) (by simp [results, go_sem]) rfl ⟨rfl, Below.chainAlloc (Below.chainAlloc (Below.refl _ _) _) _⟩
theorem shE_1 {d : Dg} (h : d.k < 1 ∨ 32 < d.k ∨ d.n < d.k ∨ 255 < d.n ∨ d.index < 0 ∨ d.n ≤ d.index) : shE d = 2 := by unfold shE; rw [if_pos h]
theorem shE_2 {d : Dg} (h1 : ¬ (d.k < 1 ∨ 32 < d.k ∨ d.n < d.k ∨ 255 < d.n ∨ d.index < 0 ∨ d.n ≤ d.index)) (h : (decide (d.index < d.k) != (d.kind == 1)) = true ∨ d.len < 1 ∨ 32768 < d.len) : shE d = 2 := by unfold shE; rw [if_neg h1, if_pos h]
theorem shE_3 {d : Dg} (h1 : ¬ (d.k < 1 ∨ 32 < d.k ∨ d.n < d.k ∨ 255 < d.n ∨ d.index < 0 ∨ d.n ≤ d.index)) (h2 : ¬ ((decide (d.index < d.k) != (d.kind == 1)) = true ∨ d.len < 1 ∨ 32768 < d.len)) (h : (d.body.length : Int) ≠ (d.len - 1) / d.k + 1 ∨ 1024 < (d.body.length : Int)) : shE d = 3 := by
  unfold shE; rw [if_neg h1, if_neg h2, if_pos h]
theorem shE_4 {d : Dg} (h1 : ¬ (d.k < 1 ∨ 32 < d.k ∨ d.n < d.k ∨ 255 < d.n ∨ d.index < 0 ∨ d.n ≤ d.index)) (h2 : ¬ ((decide (d.index < d.k) != (d.kind == 1)) = true ∨ d.len < 1 ∨ 32768 < d.len)) (h : ¬ ((d.body.length : Int) ≠ (d.len - 1) / d.k + 1 ∨ 1024 < (d.body.length : Int))) : shE d = 0 := by
  unfold shE; rw [if_neg h1, if_neg h2, if_neg h]
theorem checkShard_any (kind stream block index k n len credit : Int) (hv body : List UInt8) (hb : body.length ≤ 9223372036854775807) (w : World) : Calls Tryz.prog 106 #[.agg #[.int .i64 kind, .int .i64 stream, .int .u32 block, .int .i64 index, .int .i64 k, .int .i64 n, .int .i64 len, .int .i64 credit, Str hv, Str body]] w
    (RetB (.int .i64 (shE ⟨kind, stream, block, index, k, n, len, credit, hv, body⟩)) w) := by
  have S1 := Lib.hid (shE_1 (d := ⟨kind, stream, block, index, k, n, len, credit, hv, body⟩))
  have S2 := Lib.hid (shE_2 (d := ⟨kind, stream, block, index, k, n, len, credit, hv, body⟩))
  have S3 := Lib.hid (shE_3 (d := ⟨kind, stream, block, index, k, n, len, credit, hv, body⟩))
  have S4 := Lib.hid (shE_4 (d := ⟨kind, stream, block, index, k, n, len, credit, hv, body⟩))
  simp only at S1 S2 S3 S4
  generalize shE ⟨kind, stream, block, index, k, n, len, credit, hv, body⟩ = z at *
  by_cases g1 : k < 1 ∨ 32 < k ∨ n < k ∨ 255 < n ∨ index < 0 ∨ n ≤ index
  · have HZ := Lib.hid (S1.out g1)
    clear S1 S2 S3 S4
    go_enter Tryz.func106, Tryz.ntmps106
    go_wp2_with fail
    all_goals first
      | (exfalso; omega)
      | (go_ret; exact ⟨ret_int HZ.out.symm, Below.chainAlloc (Below.refl _ _) _⟩)
  · have f1 : decide (k < 1) = false := by simp; omega
    have f2 : decide (32 < k) = false := by simp; omega
    have f3 : decide (n < k) = false := by simp; omega
    have f4 : decide (255 < n) = false := by simp; omega
    have f5 : decide (index < 0) = false := by simp; omega
    have f6 : decide (n ≤ index) = false := by simp; omega
    have k1 : 1 ≤ k := by omega
    have k2 : k ≤ 32 := by omega
    obtain ⟨p, d1⟩ : ∃ p, decide (index < k) = p := ⟨_, rfl⟩
    obtain ⟨q, d2⟩ : ∃ q, (kind == 1) = q := ⟨_, rfl⟩
    have S2' := Lib.hid (S2.out g1)
    have S3' := Lib.hid (S3.out g1)
    have S4' := Lib.hid (S4.out g1)
    clear S1 S2 S3 S4 g1
    rw [d1, d2] at S2' S3' S4'
    by_cases g2 : (p != q) = true ∨ len < 1 ∨ 32768 < len
    · have HZ := Lib.hid (S2'.out g2)
      clear S2' S3' S4'
      cases hb1 : (p != q) with
      | true =>
        clear g2
        cases p <;> cases q
        all_goals first
          | (exfalso; revert hb1; decide)
          | (go_enter Tryz.func106, Tryz.ntmps106
             go_wp2_with fail
             all_goals first
               | (exfalso; omega)
               | (go_ret; exact ⟨ret_int HZ.out.symm, Below.chainAlloc (Below.refl _ _) _⟩))
      | false =>
        have g3 : len < 1 ∨ 32768 < len := by rw [hb1] at g2; simpa using g2
        clear g2
        cases p <;> cases q
        all_goals first
          | (exfalso; revert hb1; decide)
          | (go_enter Tryz.func106, Tryz.ntmps106
             go_wp2_with fail
             all_goals first
               | (exfalso; omega)
               | (go_ret; exact ⟨ret_int HZ.out.symm, Below.chainAlloc (Below.refl _ _) _⟩))
    · have hb1 : (p != q) = false := by
        cases h : (p != q) with
        | false => rfl
        | true => exact absurd (.inl h) g2
      have l1 : 1 ≤ len := by omega
      have l2 : len ≤ 32768 := by omega
      have f7 : decide (len < 1) = false := by simp; omega
      have f8 : decide (32768 < len) = false := by simp; omega
      have q0 : 0 ≤ (len - 1) / k := Int.ediv_nonneg (by omega) (by omega)
      have q1 : (len - 1) / k ≤ 32768 := Int.le_trans (Int.ediv_le_self _ (by omega)) (by omega)
      have hw1 : IntKind.i64.wrap (len - 1) = len - 1 := by rw [IntWalk.i64_in _ (by omega)]
      have hq : (len - 1).tdiv k = (len - 1) / k := Int.tdiv_eq_ediv_of_nonneg (by omega)
      have hw2 : IntKind.i64.wrap ((len - 1) / k + 1) = (len - 1) / k + 1 := by rw [IntWalk.i64_in _ (by omega)]
      by_cases g3 : (body.length : Int) ≠ (len - 1) / k + 1 ∨ 1024 < (body.length : Int)
      · have HZ := Lib.hid (S3'.out g2 g3)
        clear S2' S3' S4' g2
        by_cases g4 : (body.length : Int) = (len - 1) / k + 1
        · have e1 : ((body.length : Int) != (len - 1) / k + 1) = false := by simpa using g4
          have e2 : decide (1024 < (body.length : Int)) = true := by simp; omega
          clear g3 g4
          generalize (len - 1) / k = qq at *
          cases p <;> cases q
          all_goals first
            | (exfalso; revert hb1; decide)
            | (go_enter Tryz.func106, Tryz.ntmps106
               go_wp2_with fail
               go_quiet (fail)
               go_wp2_with fail
               go_ret
               exact ⟨ret_int HZ.out.symm, below_drewN (Below.chainAlloc (Below.refl _ _) _) _⟩)
        · have e1 : ((body.length : Int) != (len - 1) / k + 1) = true := by simpa using g4
          clear g3 g4
          generalize (len - 1) / k = qq at *
          cases p <;> cases q
          all_goals first
            | (exfalso; revert hb1; decide)
            | (go_enter Tryz.func106, Tryz.ntmps106
               go_wp2_with fail
               go_quiet (fail)
               go_wp2_with fail
               go_ret
               exact ⟨ret_int HZ.out.symm, below_drewN (Below.chainAlloc (Below.refl _ _) _) _⟩)
      · have HZ := Lib.hid (S4'.out g2 g3)
        clear S2' S3' S4' g2
        have e1 : ((body.length : Int) != (len - 1) / k + 1) = false := by simp; omega
        have e2 : decide (1024 < (body.length : Int)) = false := by simp; omega
        clear g3
        generalize (len - 1) / k = qq at *
        cases p <;> cases q
        all_goals first
          | (exfalso; revert hb1; decide)
          | (go_enter Tryz.func106, Tryz.ntmps106
             go_wp2_with fail
             go_quiet (fail)
             go_wp2_with fail
             go_ret
             exact ⟨ret_int HZ.out.symm, below_drewN (Below.chainAlloc (Below.refl _ _) _) _⟩)
end Go.Proofs.YtnmlmpffmjhihaaGreat
namespace Go.Proofs.YtnmlmpffmjhihaaGreat
open Go.RowKit
set_option linter.unusedVariables false
set_option maxRecDepth 100000
set_option maxHeartbeats 1000000
attribute [local go_sem ↓] Go.wp_at_zero Go.wp_at_succ
abbrev dgv (kind stream block index k n len credit : Int) (hv body : List UInt8) : Value := .agg #[.int .i64 kind, .int .i64 stream, .int .u32 block, .int .i64 index, .int .i64 k, .int .i64 n, .int .i64 len, .int .i64 credit, Str hv, Str body]
def z10 : Array Value := #[.int .i64 0, .int .i64 0, .int .u32 0, .int .i64 0, .int .i64 0, .int .i64 0, .int .i64 0, .int .i64 0, .string ⟨#[]⟩, .string ⟨#[]⟩]
/-- The two blocks that are made first, behind a call. -/
theorem two_blocks {w w1 : World} {cs zs : Array Value} {t t' : TypeId} (hb : Below ((w.alloc (.cells cs t)).alloc (.cells zs t')).heap.size ((w.alloc (.cells cs t)).alloc (.cells zs t')) w1) :
    Blk w1 w.heap.size cs t ∧ Blk w1 (w.heap.size + 1) zs t' ∧ Below w.heap.size w w1 ∧ w.heap.size + 2 ≤ w1.heap.size := by
  have h1 := (Blk.new w cs t).alloc (.cells zs t')
  have h2 := Blk.new (w.alloc (.cells cs t)) zs t'
  rw [size_alloc] at h2
  have hs := hb.size
  have e : ((w.alloc (.cells cs t)).alloc (.cells zs t')).heap.size = w.heap.size + 2 := by rw [size_alloc, size_alloc]
  refine ⟨h1.below hb (by rw [e]; omega), h2.below hb (by rw [e]; omega), Below.chain hb (Below.chainAlloc (Below.chainAlloc (Below.refl _ _) _) _), by omega⟩
theorem cells10 {w : World} {b : Nat} {t : TypeId} {c0 c1 c2 c3 c4 c5 c6 c7 c8 c9 : Value} (v0 v1 v2 v3 v4 v5 v6 v7 v8 v9 : Value) (k : Blk w b #[c0, c1, c2, c3, c4, c5, c6, c7, c8, c9] t) :
    Blk ((((((((((w.setCell ⟨b, 0, none⟩ v0).setCell ⟨b, 1, none⟩ v1).setCell ⟨b, 2, none⟩ v2).setCell ⟨b, 3, none⟩ v3).setCell ⟨b, 4, none⟩ v4).setCell ⟨b, 5, none⟩ v5).setCell ⟨b, 6, none⟩ v6).setCell ⟨b, 7, none⟩ v7).setCell ⟨b, 8, none⟩ v8).setCell ⟨b, 9, none⟩ v9) b #[v0, v1, v2, v3, v4, v5, v6, v7, v8, v9] t := by
  have h := ((((((((((k.set 0 v0).set 1 v1).set 2 v2).set 3 v3).set 4 v4).set 5 v5).set 6 v6).set 7 v7).set 8 v8).set 9 v9)
  have e : ((((((((((#[c0, c1, c2, c3, c4, c5, c6, c7, c8, c9].setIfInBounds 0 v0).setIfInBounds 1 v1).setIfInBounds 2 v2).setIfInBounds 3 v3).setIfInBounds 4 v4).setIfInBounds 5 v5).setIfInBounds 6 v6).setIfInBounds 7 v7).setIfInBounds 8 v8).setIfInBounds 9 v9) = #[v0, v1, v2, v3, v4, v5, v6, v7, v8, v9] := by simp
  rw [e] at h
  exact h
theorem below10 {w0 w : World} {b : Nat} (v0 v1 v2 v3 v4 v5 v6 v7 v8 v9 : Value) (h : Below w0.heap.size w0 w) (hb : w0.heap.size ≤ b) :
    Below w0.heap.size w0 ((((((((((w.setCell ⟨b, 0, none⟩ v0).setCell ⟨b, 1, none⟩ v1).setCell ⟨b, 2, none⟩ v2).setCell ⟨b, 3, none⟩ v3).setCell ⟨b, 4, none⟩ v4).setCell ⟨b, 5, none⟩ v5).setCell ⟨b, 6, none⟩ v6).setCell ⟨b, 7, none⟩ v7).setCell ⟨b, 8, none⟩ v8).setCell ⟨b, 9, none⟩ v9) :=
  (((((((((h.setCell (p := ⟨b, 0, none⟩) hb v0).setCell (p := ⟨b, 1, none⟩) hb v1).setCell (p := ⟨b, 2, none⟩) hb v2).setCell (p := ⟨b, 3, none⟩) hb v3).setCell (p := ⟨b, 4, none⟩) hb v4).setCell (p := ⟨b, 5, none⟩) hb v5).setCell (p := ⟨b, 6, none⟩) hb v6).setCell (p := ⟨b, 7, none⟩) hb v7).setCell (p := ⟨b, 8, none⟩) hb v8).setCell (p := ⟨b, 9, none⟩) hb v9
theorem dg_end {f : Func} {w W : World} {b : Nat} {c0 c1 c2 c3 c4 c5 c6 c7 c8 c9 : Value} {A : Act} (hr : f.results = #[ResultVar.cell 2 27]) (kb : Blk W b #[c0, c1, c2, c3, c4, c5, c6, c7, c8, c9] 27) (hB : Below w.heap.size w W) (h2 : A.tmps[2]? = some (.pointer (some ⟨b, 0, none⟩))) (hd : A.defers = []) :
    bodyPost Tryz.prog f (RetB (.agg #[c0, c1, c2, c3, c4, c5, c6, c7, c8, c9]) w) Exit.ret A W := by
  have hc := kb.facts.1
  refine bodyPost_ret (v := .agg #[c0, c1, c2, c3, c4, c5, c6, c7, c8, c9]) ?_ hd ⟨rfl, hB⟩
  simp [results, hr, go_sem, h2, hc]
theorem own_nk (kind stream block index k n len credit : Int) (hv body : List UInt8) (w : World) : Calls Tryz.prog 117 #[.agg #[.int .i64 kind, .int .i64 stream, .int .u32 block, .int .i64 index, .int .i64 k, .int .i64 n, .int .i64 len, .int .i64 credit, Str hv, Str body]] w
    (RetB (.agg #[.int .i64 kind, .int .i64 stream, .int .u32 block, .int .i64 0, .int .i64 0, .int .i64 0, .int .i64 0, .int .i64 0, Str hv, .string ⟨#[]⟩]) w) := by
  go_enter Tryz.func117, Tryz.ntmps117
  go_wp2_with fail
  refine (head_any kind stream block index k n len credit hv body _).mono ?_
  rintro e w1 ⟨rfl, hb⟩
  obtain ⟨k1, k2, hB, hz⟩ := two_blocks hb
  obtain ⟨c1, f1, l1⟩ := k1.facts
  obtain ⟨c2, f2, l2⟩ := k2.facts
  have n1 : w.heap.size ≠ w1.heap.size := by omega
  have n2 : w.heap.size + 1 ≠ w1.heap.size := by omega
  clear hb
  go_wp2_with fail
  exact dg_end rfl ((cells10 _ _ _ _ _ _ _ _ _ _ k2).alloc _) (Below.chainAlloc (below10 _ _ _ _ _ _ _ _ _ _ hB (by omega)) _) rfl rfl
theorem own_ak (kind stream block index k n len credit : Int) (hv body : List UInt8) (w : World) : Calls Tryz.prog 121 #[.agg #[.int .i64 kind, .int .i64 stream, .int .u32 block, .int .i64 index, .int .i64 k, .int .i64 n, .int .i64 len, .int .i64 credit, Str hv, Str body]] w
    (RetB (.agg #[.int .i64 kind, .int .i64 stream, .int .u32 block, .int .i64 0, .int .i64 0, .int .i64 0, .int .i64 0, .int .i64 credit, .string ⟨#[]⟩, .string ⟨#[]⟩]) w) := by
  go_enter Tryz.func121, Tryz.ntmps121
  go_wp2_with fail
  refine (head_any kind stream block index k n len credit hv body _).mono ?_
  rintro e w1 ⟨rfl, hb⟩
  obtain ⟨k1, k2, hB, hz⟩ := two_blocks hb
  obtain ⟨c1, f1, l1⟩ := k1.facts
  obtain ⟨c2, f2, l2⟩ := k2.facts
  have n1 : w.heap.size ≠ w1.heap.size := by omega
  have n2 : w.heap.size + 1 ≠ w1.heap.size := by omega
  clear hb
  go_wp2_with fail
  exact dg_end rfl ((cells10 _ _ _ _ _ _ _ _ _ _ k2).alloc _) (Below.chainAlloc (below10 _ _ _ _ _ _ _ _ _ _ hB (by omega)) _) rfl rfl
theorem own_sh (kind stream block index k n len credit : Int) (hv body : List UInt8) (w : World) : Calls Tryz.prog 112 #[.agg #[.int .i64 kind, .int .i64 stream, .int .u32 block, .int .i64 index, .int .i64 k, .int .i64 n, .int .i64 len, .int .i64 credit, Str hv, Str body]] w
    (RetB (.agg #[.int .i64 kind, .int .i64 stream, .int .u32 block, .int .i64 index, .int .i64 k, .int .i64 n, .int .i64 len, .int .i64 0, .string ⟨#[]⟩, Str body]) w) := by
  go_enter Tryz.func112, Tryz.ntmps112
  go_wp2_with fail
  refine (head_any kind stream block index k n len credit hv body _).mono ?_
  rintro e w1 ⟨rfl, hb⟩
  obtain ⟨k1, k2, hB, hz⟩ := two_blocks hb
  obtain ⟨c1, f1, l1⟩ := k1.facts
  obtain ⟨c2, f2, l2⟩ := k2.facts
  have n1 : w.heap.size ≠ w1.heap.size := by omega
  have n2 : w.heap.size + 1 ≠ w1.heap.size := by omega
  clear hb
  go_wp2_with fail
  go_region_held3 (fun w' => w'.cell? ⟨w.heap.size, 3, none⟩ = some (.int .i64 index) ∧ w'.cell? ⟨w.heap.size, 4, none⟩ = some (.int .i64 k) ∧ w'.cell? ⟨w.heap.size, 5, none⟩ = some (.int .i64 n) ∧ w'.cell? ⟨w.heap.size, 6, none⟩ = some (.int .i64 len) ∧ w'.cell? ⟨w.heap.size, 9, none⟩ = some (Str body)) (go_keep) (fail)
  go_wp2_with fail
  exact dg_end rfl ((cells10 _ _ _ _ _ _ _ _ _ _ k2).alloc _).drew (Below.chainAlloc (below10 _ _ _ _ _ _ _ _ _ _ hB (by omega)) _).drew rfl rfl
end Go.Proofs.YtnmlmpffmjhihaaGreat
namespace Go.Proofs.YtnmlmpffmjhihaaGreat
open Go.RowKit
set_option linter.unusedVariables false
set_option maxRecDepth 100000
set_option maxHeartbeats 1000000
attribute [local go_sem ↓] Go.wp_at_zero Go.wp_at_succ
theorem chk_nk (kind stream block index k n len credit : Int) (hv body : List UInt8) (hl : hv.length ≤ 9223372036854775807) (w : World) : Calls Tryz.prog 114 #[dgv kind stream block index k n len credit hv body] w
    (RetB (.int .i64 (if hv.length = 32 then 0 else 5)) w) := by
  show Calls Tryz.prog 114 #[.agg #[.int .i64 kind, .int .i64 stream, .int .u32 block, .int .i64 index, .int .i64 k, .int .i64 n, .int .i64 len, .int .i64 credit, Str hv, Str body]] w _
  by_cases h : hv.length = 32
  · have e : ((hv.length : Int) != 32) = false := by simp; omega
    rw [if_pos h]
    clear h
    go_enter Tryz.func114, Tryz.ntmps114
    go_wp2_with fail
    go_ret
    exact ⟨rfl, Below.chainAlloc (Below.refl _ _) _⟩
  · have e : ((hv.length : Int) != 32) = true := by simp; omega
    rw [if_neg h]
    clear h
    go_enter Tryz.func114, Tryz.ntmps114
    go_wp2_with fail
    go_ret
    exact ⟨rfl, Below.chainAlloc (Below.refl _ _) _⟩
theorem chk_ak (kind stream block index k n len credit : Int) (hv body : List UInt8) (w : World) : Calls Tryz.prog 118 #[dgv kind stream block index k n len credit hv body] w
    (RetB (.int .i64 (if credit < 0 ∨ 65535 < credit then 2 else 0)) w) := by
  show Calls Tryz.prog 118 #[.agg #[.int .i64 kind, .int .i64 stream, .int .u32 block, .int .i64 index, .int .i64 k, .int .i64 n, .int .i64 len, .int .i64 credit, Str hv, Str body]] w _
  by_cases h : credit < 0 ∨ 65535 < credit
  · rw [if_pos h]
    go_enter Tryz.func118, Tryz.ntmps118
    go_wp2_with fail
    all_goals first
      | (exfalso; omega)
      | (go_ret; exact ⟨rfl, Below.chainAlloc (Below.refl _ _) _⟩)
  · rw [if_neg h]
    go_enter Tryz.func118, Tryz.ntmps118
    go_wp2_with fail
    all_goals first
      | (exfalso; omega)
      | (go_ret; exact ⟨rfl, Below.chainAlloc (Below.refl _ _) _⟩)
theorem chk_pl (kind stream block index k n len credit : Int) (hv body : List UInt8) (w : World) : Calls Tryz.prog 122 #[dgv kind stream block index k n len credit hv body] w (RetB (.int .i64 0) w) := by
  show Calls Tryz.prog 122 #[.agg #[.int .i64 kind, .int .i64 stream, .int .u32 block, .int .i64 index, .int .i64 k, .int .i64 n, .int .i64 len, .int .i64 credit, Str hv, Str body]] w _
  go_enter Tryz.func122, Tryz.ntmps122
  go_wp2_with fail
  go_ret
  exact ⟨rfl, Below.chainAlloc (Below.refl _ _) _⟩
theorem put_nk (kind stream block index k n len credit : Int) (hv body : List UInt8) (w : World) : Calls Tryz.prog 115 #[dgv kind stream block index k n len credit hv body] w (RetB (Str hv) w) := by
  show Calls Tryz.prog 115 #[.agg #[.int .i64 kind, .int .i64 stream, .int .u32 block, .int .i64 index, .int .i64 k, .int .i64 n, .int .i64 len, .int .i64 credit, Str hv, Str body]] w _
  go_enter Tryz.func115, Tryz.ntmps115
  go_wp2_with fail
  go_ret
  exact ⟨rfl, Below.chainAlloc (Below.refl _ _) _⟩
theorem put_pl (kind stream block index k n len credit : Int) (hv body : List UInt8) (w : World) : Calls Tryz.prog 123 #[dgv kind stream block index k n len credit hv body] w (RetB (.string ⟨#[]⟩) w) := by
  show Calls Tryz.prog 123 #[.agg #[.int .i64 kind, .int .i64 stream, .int .u32 block, .int .i64 index, .int .i64 k, .int .i64 n, .int .i64 len, .int .i64 credit, Str hv, Str body]] w _
  go_enter Tryz.func123, Tryz.ntmps123
  go_wp2_with fail
  go_ret
  exact ⟨rfl, Below.chainAlloc (Below.refl _ _) _⟩
theorem putS_ok (z : Int) (s : Nat) (hs : s = 1 ∨ s = 2 ∨ s = 4) (h0 : 0 ≤ z) (h1 : z < 256 ^ s) : putS z s = be z s := by
  rcases hs with rfl | rfl | rfl
  · have hE : putE z (1 : Nat) = 0 := by
      unfold putE
      rw [if_neg (by decide), if_neg (by intro h; have h2 := h.2; simp at h2; omega)]
    unfold putS; rw [if_pos hE]; rfl
  · have hE : putE z (2 : Nat) = 0 := by
      unfold putE
      rw [if_neg (by decide), if_neg (by intro h; have h2 := h.2; simp at h2; omega)]
    unfold putS; rw [if_pos hE]; rfl
  · have hE : putE z (4 : Nat) = 0 := by
      unfold putE
      rw [if_neg (by decide), if_neg (by intro h; have h2 := h.1; simp at h2)]
    unfold putS; rw [if_pos hE]; rfl
theorem num_dg (z size : Int) (h0 : 0 ≤ z) (h1 : z < 4294967296) (w : World) : Calls Tryz.prog 83 #[.int .i64 z, .int .i64 size] w (RetB (Str (putS z size)) w) := by
  have HP := Lib.hid (fun wx => put_any z size h0 h1 wx)
  go_enter Tryz.func83, Tryz.ntmps83
  go_wp2_with fail
  refine (HP.out _).mono ?_
  rintro e w1 ⟨rfl, hb⟩
  generalize putS z size = s at *
  generalize putE z size = y at *
  go_wp2_with fail
  go_ret
  exact ⟨rfl, hb⟩
end Go.Proofs.YtnmlmpffmjhihaaGreat
namespace Go.Proofs.YtnmlmpffmjhihaaGreat
open Go.RowKit
set_option linter.unusedVariables false
set_option maxRecDepth 100000
set_option maxHeartbeats 1000000
attribute [local go_sem ↓] Go.wp_at_zero Go.wp_at_succ
theorem put_ak (kind stream block index k n len credit : Int) (hv body : List UInt8) (h0 : 0 ≤ credit) (h1 : credit ≤ 65535) (w : World) : Calls Tryz.prog 119 #[dgv kind stream block index k n len credit hv body] w (RetB (Str (be credit 2)) w) := by
  show Calls Tryz.prog 119 #[.agg #[.int .i64 kind, .int .i64 stream, .int .u32 block, .int .i64 index, .int .i64 k, .int .i64 n, .int .i64 len, .int .i64 credit, Str hv, Str body]] w _
  have HP := Lib.hid (putS_ok credit 2 (by omega) h0 (by omega))
  go_enter Tryz.func119, Tryz.ntmps119
  go_wp2_with fail
  refine (num_dg credit 2 h0 (by omega) _).mono ?_
  rintro e w1 ⟨rfl, hb⟩
  have e : putS credit 2 = be credit 2 := HP.out
  rw [e]
  have hB := Below.chain hb (Below.chainAlloc (Below.refl _ _) _)
  clear hb e
  generalize be credit 2 = s at *
  go_wp2_with fail
  go_ret
  exact ⟨rfl, hB⟩
theorem put_sh (kind stream block index k n len credit : Int) (hv body : List UInt8) (i0 : 0 ≤ index) (i1 : index < 256) (k0 : 0 ≤ k) (k1 : k < 256) (n0 : 0 ≤ n) (n1 : n < 256) (l0 : 1 ≤ len) (l1 : len ≤ 32768) (hbl : body.length ≤ 1024) (w : World) :
    Calls Tryz.prog 107 #[dgv kind stream block index k n len credit hv body] w (RetB (Str (be index 1 ++ be k 1 ++ be n 1 ++ be (len - 1) 2 ++ body)) w) := by
  show Calls Tryz.prog 107 #[.agg #[.int .i64 kind, .int .i64 stream, .int .u32 block, .int .i64 index, .int .i64 k, .int .i64 n, .int .i64 len, .int .i64 credit, Str hv, Str body]] w _
  have P1 : putS index 1 = be index 1 := putS_ok index 1 (by omega) i0 (by omega)
  have P2 : putS k 1 = be k 1 := putS_ok k 1 (by omega) k0 (by omega)
  have P3 : putS n 1 = be n 1 := putS_ok n 1 (by omega) n0 (by omega)
  have P4 : putS (len - 1) 2 = be (len - 1) 2 := putS_ok (len - 1) 2 (by omega) (by omega) (by omega)
  have L1 : (be index 1).length = 1 := be_length _ _
  have L2 : (be k 1).length = 1 := be_length _ _
  have L3 : (be n 1).length = 1 := be_length _ _
  have L4 : (be (len - 1) 2).length = 2 := be_length _ _
  have hw1 : IntKind.i64.wrap (len - 1) = len - 1 := by rw [IntWalk.i64_in _ (by omega)]
  have l2 : 0 ≤ len - 1 := by omega
  have hs5 : ¬ 9223372036854775807 < 5 + body.length := by omega
  have l3 : len - 1 < 4294967296 := by omega
  go_enter Tryz.func107, Tryz.ntmps107
  go_upto_region 1 with fail
  have kb := Blk.new w #[.int .i64 kind, .int .i64 stream, .int .u32 block, .int .i64 index, .int .i64 k, .int .i64 n, .int .i64 len, .int .i64 credit, Str hv, Str body] 27
  have hW := Below.chainAlloc (Below.refl w.heap.size w) (.cells #[.int .i64 kind, .int .i64 stream, .int .u32 block, .int .i64 index, .int .i64 k, .int .i64 n, .int .i64 len, .int .i64 credit, Str hv, Str body] 27)
  generalize w.alloc (.cells #[.int .i64 kind, .int .i64 stream, .int .u32 block, .int .i64 index, .int .i64 k, .int .i64 n, .int .i64 len, .int .i64 credit, Str hv, Str body] 27) = W at *
  have hmk : ∀ w', Below W.heap.size W w' → (w'.cell? ⟨w.heap.size, 3, none⟩ = some (.int .i64 index) ∧ w'.cell? ⟨w.heap.size, 4, none⟩ = some (.int .i64 k) ∧ w'.cell? ⟨w.heap.size, 5, none⟩ = some (.int .i64 n) ∧ w'.cell? ⟨w.heap.size, 6, none⟩ = some (.int .i64 len) ∧ w'.cell? ⟨w.heap.size, 9, none⟩ = some (.string ⟨body.toArray⟩) ∧ Below W.heap.size W w') := fun w' h =>
    ⟨(h.cell (p := ⟨w.heap.size, 3, none⟩) kb.lt).trans (kb.facts.1 3), (h.cell (p := ⟨w.heap.size, 4, none⟩) kb.lt).trans (kb.facts.1 4), (h.cell (p := ⟨w.heap.size, 5, none⟩) kb.lt).trans (kb.facts.1 5), (h.cell (p := ⟨w.heap.size, 6, none⟩) kb.lt).trans (kb.facts.1 6), (h.cell (p := ⟨w.heap.size, 9, none⟩) kb.lt).trans (kb.facts.1 9), h⟩
  have HMK := Lib.hid hmk
  have HW := Lib.hid hW
  clear hmk kb hW
  go_region_held3 (fun w' => w'.cell? ⟨w.heap.size, 3, none⟩ = some (.int .i64 index) ∧ w'.cell? ⟨w.heap.size, 4, none⟩ = some (.int .i64 k) ∧ w'.cell? ⟨w.heap.size, 5, none⟩ = some (.int .i64 n) ∧ w'.cell? ⟨w.heap.size, 6, none⟩ = some (.int .i64 len) ∧ w'.cell? ⟨w.heap.size, 9, none⟩ = some (.string ⟨body.toArray⟩) ∧ Below W.heap.size W w')
    (first
      | exact HMK.out _ (Below.refl _ _).drew
      | exact HMK.out _ (Below.refl _ _)
      | (go_split_ands; exact HMK.out _ (Below.chain hb (by assumption))))
    ((go_at_call 83; refine (num_dg _ _ ?_ ?_ _).mono ?_; (first | omega | assumption); (first | omega | assumption); rintro x w1 ⟨rfl, hb⟩))
  rename_i hHeld
  obtain ⟨_, _, _, _, _, hbb⟩ := hHeld
  go_wp2_with fail
  go_ret
  exact ⟨by simp only [app_lists]; rfl, Below.chain hbb HW.out⟩
end Go.Proofs.YtnmlmpffmjhihaaGreat
