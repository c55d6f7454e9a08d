/-
  Datagrams (chapter 10): plain laws: they come back from their bytes; bytes that are read are just those; one changed bit is seen.
-/
import Derived.Test.YtphejbjbleeigaaDgP
import Derived.Test.YtphejbjbleeigaaWireR
namespace Go.Proofs.Ytphejbjbleeigaa
set_option linter.unusedVariables false
theorem U8_back (x : Int) (hx : 0 ≤ x) (c : UInt8) : U8 (x * 256 + c.toNat) = c := by
  apply UInt8.toNat.inj
  have h1 := U8_toNat (x * 256 + c.toNat) (by omega)
  have h2 := u8_lt c
  omega
theorem be_unbe : ∀ (n : Nat) (l : List UInt8), l.length = n → be (unbe l) n = l
  | 0, l, h => by
    rw [List.eq_nil_of_length_eq_zero h]
    rfl
  | n + 1, l, h => by
    obtain ⟨m, c, rfl⟩ : ∃ m c, l = m ++ [c] := ⟨l.dropLast, l.getLast (by intro e; subst e; simp at h), (List.dropLast_concat_getLast _).symm⟩
    have hm : m.length = n := by simpa using h
    have hu := (unbe_lt m).1
    have hc := u8_lt c
    rw [be, unbe_snoc, U8_back _ hu, show (unbe m * 256 + (c.toNat : Int)) / 256 = unbe m by omega, be_unbe n m hm]
theorem unbe1 (x : Int) (h0 : 0 ≤ x) (h1 : x < 256) : unbe [U8 x] = x := by
  have := unbe_be x h0 1
  rw [be1] at this
  rw [this]
  omega
theorem unbe_be4 (x : Int) (h0 : 0 ≤ x) (h1 : x < 4294967296) : unbe (be x 4) = x := by
  rw [unbe_be x h0 4]
  omega
theorem unbe_be2 (x : Int) (h0 : 0 ≤ x) (h1 : x < 65536) : unbe (be x 2) = x := by
  rw [unbe_be x h0 2]
  omega
/-- What of a datagram comes out of memory. -/
structure Dg.ok (d : Dg) : Prop where
  b0 : 0 ≤ d.block
  b1 : d.block < 4294967296
theorem dgE_zero {d : Dg} (h : dgE d = 0) : (1 ≤ d.kind ∧ d.kind ≤ 6) ∧ (0 ≤ d.stream ∧ d.stream ≤ 255) ∧ kdE d = 0 ∧ ownD d = d := by
  unfold dgE at h
  split at h
  · cases h
  · split at h
    · cases h
    · split at h
      · rename_i hk; exact absurd h hk
      · split at h
        · cases h
        · rename_i h1 h2 h3 h4
          exact ⟨by omega, by omega, by simpa using h3, by simpa using h4⟩
theorem shE_zero {d : Dg} (h : shE d = 0) : (1 ≤ d.k ∧ d.k ≤ 32) ∧ (d.k ≤ d.n ∧ d.n ≤ 255) ∧ (0 ≤ d.index ∧ d.index < d.n) ∧ (1 ≤ d.len ∧ d.len ≤ 32768) ∧ (d.body.length : Int) ≤ 1024 := by
  unfold shE at h
  split at h
  · cases h
  · split at h
    · cases h
    · split at h
      · cases h
      · rename_i h1 h2 h3
        omega
theorem dgE_ok {d : Dg} (h1 : 1 ≤ d.kind ∧ d.kind ≤ 6) (h2 : 0 ≤ d.stream ∧ d.stream ≤ 255) (h3 : kdE d = 0) (h4 : ownD d = d) : dgE d = 0 := by
  unfold dgE
  rw [if_neg (by omega), if_neg (by omega), if_neg (by omega), if_neg (by simpa using h4)]
theorem raw_head (d : Dg) : rawS d = 76 :: 83 :: U8 d.kind :: U8 d.stream :: (be d.block 4 ++ restS d) := by
  unfold rawS
  simp [be1]
theorem raw_drop (d : Dg) : (rawS d).drop 8 = restS d := by
  rw [raw_head, be4]
  rfl
theorem raw_headD (d : Dg) (hd : d.ok) (h1 : 1 ≤ d.kind ∧ d.kind ≤ 6) (h2 : 0 ≤ d.stream ∧ d.stream ≤ 255) : headD (rawS d) = ⟨d.kind, d.stream, d.block, 0, 0, 0, 0, 0, [], []⟩ := by
  unfold headD
  have e1 : ((rawS d).drop 2).take 1 = [U8 d.kind] := by rw [raw_head]; rfl
  have e2 : ((rawS d).drop 3).take 1 = [U8 d.stream] := by rw [raw_head]; rfl
  have e3 : ((rawS d).drop 4).take 4 = be d.block 4 := by rw [raw_head, be4]; rfl
  rw [e1, e2, e3, unbe1 _ (by omega) (by omega), unbe1 _ (by omega) (by omega), unbe_be4 _ hd.b0 hd.b1]
theorem raw_len (d : Dg) : (rawS d).length = 8 + (restS d).length := by
  rw [raw_head]
  simp [be_length]
  omega
/-- The fields come back. -/
theorem fields_back {d : Dg} (h3 : kdE d = 0) (h4 : ownD d = d) : fieldsD ⟨d.kind, d.stream, d.block, 0, 0, 0, 0, 0, [], []⟩ (restS d) = (d, 0) := by
  obtain ⟨kind, stream, block, index, k, n, len, credit, hv, body⟩ := d
  unfold fieldsD restS
  unfold kdE at h3
  unfold ownD at h4
  by_cases c1 : kind = 1 ∨ kind = 2
  · simp only [if_pos c1] at h3 h4 ⊢
    obtain ⟨a1, a2, a3, a4, a5⟩ := shE_zero h3
    simp only at a1 a2 a3 a4 a5
    have hcr : credit = 0 := by injection h4 with _ _ _ _ _ _ _ e; exact e.symm
    have hhv : hv = [] := by injection h4 with _ _ _ _ _ _ _ _ e; exact e.symm
    subst hcr hhv
    have e5 : be index 1 ++ be k 1 ++ be n 1 ++ be (len - 1) 2 ++ body = U8 index :: U8 k :: U8 n :: (be (len - 1) 2 ++ body) := by simp [be1]
    rw [e5, if_neg (by simp [be_length])]
    have f1 : unbe ((U8 index :: U8 k :: U8 n :: (be (len - 1) 2 ++ body)).take 1) = index := unbe1 _ (by omega) (by omega)
    have f2 : unbe (((U8 index :: U8 k :: U8 n :: (be (len - 1) 2 ++ body)).drop 1).take 1) = k := unbe1 _ (by omega) (by omega)
    have f3 : unbe (((U8 index :: U8 k :: U8 n :: (be (len - 1) 2 ++ body)).drop 2).take 1) = n := unbe1 _ (by omega) (by omega)
    have f4 : unbe (((U8 index :: U8 k :: U8 n :: (be (len - 1) 2 ++ body)).drop 3).take 2) = len - 1 := by
      show unbe ((be (len - 1) 2 ++ body).take 2) = len - 1
      rw [List.take_left' (be_length _ _), unbe_be2 _ (by omega) (by omega)]
    have f5 : (U8 index :: U8 k :: U8 n :: (be (len - 1) 2 ++ body)).drop 5 = body := by
      show (be (len - 1) 2 ++ body).drop 2 = body
      exact List.drop_left' (be_length _ _)
    rw [f1, f2, f3, f4, f5, show len - 1 + 1 = len by omega]
  · simp only [if_neg c1] at h3 h4 ⊢
    by_cases c2 : kind = 3
    · simp only [if_pos c2] at h3 h4 ⊢
      have hl : hv.length = 32 := by
        split at h3
        · assumption
        · cases h3
      rw [if_neg (by omega), if_pos hl, List.take_of_length_le (by omega)]
      injection h4 with _ _ _ e1 e2 e3 e4 e5 _ e6
      subst e1 e2 e3 e4 e5 e6
      rfl
    · simp only [if_neg c2] at h3 h4 ⊢
      by_cases c3 : kind = 4
      · simp only [if_pos c3] at h3 h4 ⊢
        have hc : 0 ≤ credit ∧ credit ≤ 65535 := by
          split at h3
          · cases h3
          · omega
        rw [if_neg (by rw [be_length]; omega), if_pos (be_length _ _), List.take_of_length_le (by rw [be_length]; omega), unbe_be2 _ (by omega) (by omega)]
        injection h4 with _ _ _ e1 e2 e3 e4 _ e5 e6
        subst e1 e2 e3 e4 e5 e6
        rfl
      · simp only [if_neg c3] at h3 h4 ⊢
        simp only [if_true]
        injection h4 with _ _ _ e1 e2 e3 e4 e5 e6 e7
        subst e1 e2 e3 e4 e5 e6 e7
        rfl
theorem dgS_ok {d : Dg} (h : dgE d = 0) : dgS d = rawS d ++ be (crcS (rawS d) : Nat) 4 := by unfold dgS; rw [if_pos h]
theorem dgS_len {d : Dg} (h : dgE d = 0) : (dgS d).length = (rawS d).length + 4 ∧ 8 ≤ (rawS d).length := by
  rw [dgS_ok h, List.length_append, be_length, raw_len]
  omega
theorem dg_back {d : Dg} (hd : d.ok) (h : dgE d = 0) : readE (dgS d) = 0 ∧ readD (dgS d) = d := by
  obtain ⟨h1, h2, h3, h4⟩ := dgE_zero h
  have hl := dgS_len h
  have hE : (fieldsD (headD (rawS d)) ((rawS d).drop 8)) = (d, 0) := by
    rw [raw_headD d hd h1 h2, raw_drop]
    exact fields_back h3 h4
  have ht : (dgS d).take ((dgS d).length - 4) = rawS d := by
    rw [hl.1, Nat.add_sub_cancel, dgS_ok h]
    exact List.take_left' rfl
  have hdr : (dgS d).drop ((dgS d).length - 4) = be (crcS (rawS d) : Nat) 4 := by
    rw [hl.1, Nat.add_sub_cancel, dgS_ok h]
    exact List.drop_left' rfl
  have hc := crcS_lt (rawS d)
  have e0 : readE (dgS d) = 0 := by
    unfold readE
    rw [if_neg (by omega), hdr, ht, unbe_be4 _ (by omega) (by omega), if_neg (by simp)]
    unfold bodyE
    rw [hE, if_neg (by rw [raw_head]; simp), if_neg (by rw [raw_headD d hd h1 h2]; show ¬ (d.kind < 1 ∨ 6 < d.kind); omega)]
    simpa using h
  refine ⟨e0, ?_⟩
  unfold readD
  rw [if_pos e0, ht, hE]
theorem list_cons8 {l : List UInt8} (h : 8 ≤ l.length) : ∃ a b c d e f g i r, l = a :: b :: c :: d :: e :: f :: g :: i :: r := by
  match l, h with
  | a :: b :: c :: d :: e :: f :: g :: i :: r, _ => exact ⟨a, b, c, d, e, f, g, i, r, rfl⟩
theorem be_one (c : UInt8) : be (unbe [c]) 1 = [c] := be_unbe 1 [c] rfl
/-- The fields' bytes are the bytes. -/
theorem rest_back {d : Dg} {l : List UInt8} (h : (fieldsD d l).2 = 0) : restS (fieldsD d l).1 = l ∧ (fieldsD d l).1.kind = d.kind ∧ (fieldsD d l).1.stream = d.stream ∧ (fieldsD d l).1.block = d.block := by
  unfold fieldsD at h ⊢
  by_cases c1 : d.kind = 1 ∨ d.kind = 2
  · simp only [if_pos c1] at h ⊢
    by_cases hl : l.length < 5
    · rw [if_pos hl] at h; cases h
    · rw [if_neg hl]
      refine ⟨?_, rfl, rfl, rfl⟩
      unfold restS
      simp only [if_pos c1]
      match l, hl with
      | a :: b :: c :: x :: y :: r, _ =>
        show be (unbe [a]) 1 ++ be (unbe [b]) 1 ++ be (unbe [c]) 1 ++ be (unbe [x, y] + 1 - 1) 2 ++ r = _
        rw [be_one, be_one, be_one, show unbe [x, y] + 1 - 1 = unbe [x, y] by omega, be_unbe 2 [x, y] rfl]
        rfl
      | [], h' => exact absurd (by decide) h'
      | [_], h' => exact absurd (by simp) h'
      | [_, _], h' => exact absurd (by simp) h'
      | [_, _, _], h' => exact absurd (by simp) h'
      | [_, _, _, _], h' => exact absurd (by simp) h'
  · simp only [if_neg c1] at h ⊢
    by_cases c2 : d.kind = 3
    · simp only [if_pos c2] at h ⊢
      by_cases hl : l.length < 32
      · rw [if_pos hl] at h; cases h
      · rw [if_neg hl] at h ⊢
        have hl2 : l.length = 32 := by
          apply Classical.byContradiction
          intro hne
          rw [if_neg hne] at h
          cases h
        refine ⟨?_, rfl, rfl, rfl⟩
        unfold restS
        simp only [if_neg c1, if_pos c2]
        exact List.take_of_length_le (by omega)
    · simp only [if_neg c2] at h ⊢
      by_cases c3 : d.kind = 4
      · simp only [if_pos c3] at h ⊢
        by_cases hl : l.length < 2
        · rw [if_pos hl] at h; cases h
        · rw [if_neg hl] at h ⊢
          have hl2 : l.length = 2 := by
            apply Classical.byContradiction
            intro hne
            rw [if_neg hne] at h
            cases h
          refine ⟨?_, rfl, rfl, rfl⟩
          unfold restS
          simp only [if_neg c1, if_neg c2, if_pos c3]
          rw [List.take_of_length_le (by omega)]
          exact be_unbe 2 l hl2
      · simp only [if_neg c3] at h ⊢
        refine ⟨?_, trivial, trivial, trivial⟩
        unfold restS
        simp only [if_neg c1, if_neg c2, if_neg c3]
        have : l = [] := by
          apply Classical.byContradiction
          intro hne
          rw [if_neg hne] at h
          cases h
        exact this.symm
theorem read_back {l : List UInt8} (h : readE l = 0) : dgE (readD l) = 0 ∧ dgS (readD l) = l := by
  have h0 := h
  unfold readE at h
  split at h
  · cases h
  · rename_i hlen
    split at h
    · cases h
    · rename_i hsum
      generalize hb : l.take (l.length - 4) = b at *
      have hbl : b.length = l.length - 4 := by rw [← hb, List.length_take]; omega
      unfold bodyE at h
      split at h
      · cases h
      · rename_i h2
        split at h
        · cases h
        · rename_i hk
          split at h
          · rename_i hf; exact absurd h hf
          · rename_i hf
            have hf0 : (fieldsD (headD b) (b.drop 8)).2 = 0 := by simpa using hf
            have hD : readD l = (fieldsD (headD b) (b.drop 8)).1 := by unfold readD; rw [if_pos h0, hb]
            rw [hD]
            refine ⟨h, ?_⟩
            rw [dgS_ok h]
            obtain ⟨r1, r2, r3, r4⟩ := rest_back hf0
            have hraw : rawS (fieldsD (headD b) (b.drop 8)).1 = b := by
              unfold rawS
              rw [r1, r2, r3, r4]
              obtain ⟨x1, x2, x3, x4, x5, x6, x7, x8, r, rfl⟩ := list_cons8 (l := b) (by omega)
              have h2' : [x1, x2] = [76, 83] := by simpa using h2
              injection h2' with e1 e2
              injection e2 with e2
              subst e1 e2
              show [76, 83] ++ be (unbe [x3]) 1 ++ be (unbe [x4]) 1 ++ be (unbe [x5, x6, x7, x8]) 4 ++ r = _
              rw [be_one, be_one, be_unbe 4 [x5, x6, x7, x8] rfl]
              rfl
            rw [hraw]
            have hs : unbe (l.drop (l.length - 4)) = (crcS b : Nat) := by simpa using hsum
            rw [← hs, be_unbe 4 _ (by rw [List.length_drop]; omega), ← hb]
            exact List.take_append_drop _ _
/-- One byte is another: it is refused by its sum. -/
theorem bit_seen {d : Dg} (h : dgE d = 0) (i : Nat) (hi : i < (dgS d).length) (c : UInt8) (hc : c ≠ (dgS d)[i]) : readE ((dgS d).set i c) = 6 := by
  have hl := dgS_len h
  have hcl := crcS_lt (rawS d)
  unfold readE
  rw [List.length_set, if_neg (by omega), if_pos]
  have hs := dgS_ok h
  rw [hl.1, Nat.add_sub_cancel]
  by_cases hin : i < (rawS d).length
  · have e1 : (dgS d).set i c = (rawS d).set i c ++ be (crcS (rawS d) : Nat) 4 := by
      rw [hs, List.set_append_left _ _ hin]
    have hget : (dgS d)[i] = (rawS d)[i] := by
      simp only [hs]
      rw [List.getElem_append_left hin]
    rw [e1, List.drop_left' (by simp), List.take_left' (by simp), unbe_be4 _ (by omega) (by omega)]
    intro e
    have e' : crcS (rawS d) = crcS ((rawS d).set i c) := by exact_mod_cast e
    have hsp : rawS d = (rawS d).take i ++ (rawS d)[i] :: (rawS d).drop (i + 1) := by
      rw [← List.drop_eq_getElem_cons hin, List.take_append_drop]
    have hst : (rawS d).set i c = (rawS d).take i ++ c :: (rawS d).drop (i + 1) := List.set_eq_take_append_cons_drop .. |>.trans (by rw [if_pos hin])
    rw [hst] at e'
    have hne := crcS_ne ((rawS d).take i) ((rawS d).drop (i + 1)) (rawS d)[i] c (fun e => hc (by rw [hget]; exact e.symm))
    rw [← hsp] at hne
    exact hne e'
  · have hge : (rawS d).length ≤ i := Nat.le_of_not_lt hin
    have hi4 : i - (rawS d).length < (be (crcS (rawS d) : Nat) 4).length := by rw [be_length]; omega
    have e1 : (dgS d).set i c = rawS d ++ (be (crcS (rawS d) : Nat) 4).set (i - (rawS d).length) c := by
      rw [hs, List.set_append_right _ _ hge]
    have hget : (dgS d)[i] = (be (crcS (rawS d) : Nat) 4)[i - (rawS d).length] := by
      simp only [hs]
      rw [List.getElem_append_right hge]
    rw [e1, List.drop_left' rfl, List.take_left' rfl]
    intro e
    have hb := be_unbe 4 ((be (crcS (rawS d) : Nat) 4).set (i - (rawS d).length) c) (by rw [List.length_set, be_length])
    rw [e] at hb
    have : (be (crcS (rawS d) : Nat) 4)[i - (rawS d).length] = c := by
      have h3 : ((be (crcS (rawS d) : Nat) 4).set (i - (rawS d).length) c)[i - (rawS d).length]'(by rw [List.length_set]; exact hi4) = c := by simp
      rw [← h3]
      congr 1
    exact hc (by rw [hget, this])
end Go.Proofs.Ytphejbjbleeigaa
