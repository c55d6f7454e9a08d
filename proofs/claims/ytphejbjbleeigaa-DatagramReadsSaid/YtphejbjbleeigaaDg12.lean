/-
  Datagrams: the datagram of any bytes: the program's contract (chapter 10).
-/
import Derived.Test.YtphejbjbleeigaaDg10
import Derived.Test.YtphejbjbleeigaaDg11
namespace Go.Proofs.Ytphejbjbleeigaa
open Go.RowKit
set_option linter.unusedVariables false
theorem fieldsD_len (d : Dg) (l : List UInt8) (h : d.have' = [] ∧ d.body = []) (hl : l.length ≤ 2000) : (fieldsD d l).1.have'.length ≤ 9223372036854775807 ∧ (fieldsD d l).1.body.length ≤ 9223372036854775807 := by
  unfold fieldsD
  split
  · split
    · rw [h.1, h.2]; simp
    · simp only [h.1]; simp; omega
  · split
    · split
      · rw [h.1, h.2]; simp
      · simp only [h.2]; simp; omega
    · split
      · split
        · rw [h.1, h.2]; simp
        · simp only [h.1, h.2]; simp
      · rw [h.1, h.2]; simp
theorem read_dg (l : List UInt8) (hl : l.length ≤ 2000) (w : World) : Calls Try.prog 22 #[Str l] w (RetB (.tuple #[(readD l).val, .int .i64 (readE l)]) w) := by
  by_cases h12 : l.length < 12
  · have h := read_short l h12 w
    rw [readD_no (by rw [readE_cut h12]; decide), readE_cut h12]
    exact h
  · have hC := cutd hl h12
    have hbl := hC.hbl
    by_cases hs : unbe (l.drop (l.length - 4)) = (crcS (l.take (l.length - 4)) : Nat)
    · have hE := readE_body h12 hs
      have hD := readD_ok (l := l)
      have hDn := readD_no (l := l)
      rw [hE] at hD hDn ⊢
      generalize readD l = y at *
      clear hE
      generalize l.take (l.length - 4) = b at *
      generalize l.drop (l.length - 4) = c at *
      obtain ⟨x0, x1, x2, x3, y0, y1, y2, y3, r, rfl⟩ := list_cons8 (l := b) (by omega)
      by_cases hm : [x0, x1] = [76, 83]
      · obtain ⟨rfl, rfl⟩ : x0 = 76 ∧ x1 = 83 := by simpa using hm
        have hu := unbe_lt [x2]
        have hH : headD (76 :: 83 :: x2 :: x3 :: y0 :: y1 :: y2 :: y3 :: r) = ⟨unbe [x2], unbe [x3], unbe [y0, y1, y2, y3], 0, 0, 0, 0, 0, [], []⟩ := rfl
        have hdr : (76 :: 83 :: x2 :: x3 :: y0 :: y1 :: y2 :: y3 :: r).drop 8 = r := rfl
        have hbE : bodyE (76 :: 83 :: x2 :: x3 :: y0 :: y1 :: y2 :: y3 :: r) = (if unbe [x2] < 1 ∨ 6 < unbe [x2] then 1 else if (fieldsD ⟨unbe [x2], unbe [x3], unbe [y0, y1, y2, y3], 0, 0, 0, 0, 0, [], []⟩ r).2 ≠ 0 then (fieldsD ⟨unbe [x2], unbe [x3], unbe [y0, y1, y2, y3], 0, 0, 0, 0, 0, [], []⟩ r).2 else dgE (fieldsD ⟨unbe [x2], unbe [x3], unbe [y0, y1, y2, y3], 0, 0, 0, 0, 0, [], []⟩ r).1) := by
          unfold bodyE
          rw [hH, hdr, if_neg (by simp)]
        rw [hH, hdr] at hD
        by_cases hk : unbe [x2] < 1 ∨ 6 < unbe [x2]
        · rw [hbE, if_pos hk] at hDn ⊢
          rw [hDn (by decide)]
          exact read_no l _ c h12 hC hs x2 x3 [y0, y1, y2, y3] r rfl rfl _ _ _ rfl rfl rfl (by omega) (by omega) (by omega) (by omega) (by omega) (by omega) w
        · rw [hbE, if_neg hk] at hDn hD ⊢
          have hlen := fieldsD_len ⟨unbe [x2], unbe [x3], unbe [y0, y1, y2, y3], 0, 0, 0, 0, 0, [], []⟩ r ⟨rfl, rfl⟩ (by have := hC.hl; simp at hbl; omega)
          generalize hd' : (fieldsD ⟨unbe [x2], unbe [x3], unbe [y0, y1, y2, y3], 0, 0, 0, 0, 0, [], []⟩ r).1 = d' at *
          generalize hz : (fieldsD ⟨unbe [x2], unbe [x3], unbe [y0, y1, y2, y3], 0, 0, 0, 0, 0, [], []⟩ r).2 = z at *
          have hy : y = if z = 0 ∧ dgE d' = 0 then d' else dg0 := by
            by_cases h0 : z = 0
            · subst h0
              by_cases h1 : dgE d' = 0
              · rw [if_pos ⟨rfl, h1⟩]; exact hD (by simpa using h1)
              · rw [if_neg (by simpa using h1)]; exact hDn (by simpa using h1)
            · rw [if_neg (by simp [h0])]; exact hDn (by simp [h0])
          have hgoal : (if z ≠ 0 then z else dgE d') = (if z = 0 then dgE d' else z) := by by_cases h0 : z = 0 <;> simp [h0]
          rw [hgoal]
          clear hD hDn hbE hgoal
          by_cases c1 : unbe [x2] = 1 ∨ unbe [x2] = 2
          · exact read_gen 129 130 131 132 l _ c h12 hC hs x2 x3 [y0, y1, y2, y3] r rfl rfl _ _ _ rfl rfl rfl enS2 (of_sh _ c1) (rd_sh _ c1) d' z y hd' hz hy hlen w
          · by_cases c2 : unbe [x2] = 3
            · exact read_gen 134 135 136 137 l _ c h12 hC hs x2 x3 [y0, y1, y2, y3] r rfl rfl _ _ _ rfl rfl rfl enN3 (of_nk _ c2) (rd_nk _ c2) d' z y hd' hz hy hlen w
            · by_cases c3 : unbe [x2] = 4
              · exact read_gen 138 139 140 141 l _ c h12 hC hs x2 x3 [y0, y1, y2, y3] r rfl rfl _ _ _ rfl rfl rfl enA3 (of_ak _ c3) (rd_ak _ c3) d' z y hd' hz hy hlen w
              · have c4 : unbe [x2] = 5 ∨ unbe [x2] = 6 := by omega
                exact read_gen 142 143 144 133 l _ c h12 hC hs x2 x3 [y0, y1, y2, y3] r rfl rfl _ _ _ rfl rfl rfl enP3 (of_pl _ c4) (rd_pl _ c4) d' z y hd' hz hy hlen w
      · have hE : bodyE (x0 :: x1 :: x2 :: x3 :: y0 :: y1 :: y2 :: y3 :: r) = 5 := by
          unfold bodyE
          rw [if_pos (by exact hm)]
        rw [hE] at hDn ⊢
        rw [hDn (by decide)]
        exact read_badmagic l _ c h12 hC hs x0 x1 _ rfl hm w
    · have hE := readE_sum h12 hs
      rw [readD_no (by rw [hE]; decide), hE]
      exact read_badsum l _ _ h12 hC hs w
end Go.Proofs.Ytphejbjbleeigaa
