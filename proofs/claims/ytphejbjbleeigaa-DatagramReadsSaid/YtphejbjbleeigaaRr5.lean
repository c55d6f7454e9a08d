/-
  Datagrams: the document's answer: the datagram of bytes, as the plain law says (chapter 10).
-/
import Derived.Test.YtphejbjbleeigaaRr4
namespace Go.Proofs.Ytphejbjbleeigaa
open Go.RowKit
set_option linter.unusedVariables false
set_option maxRecDepth 100000
set_option maxHeartbeats 1000000
theorem unbe_one (x : UInt8) : (x.toNat : Int) = unbe [x] := by simp [unbe]
theorem rread_dg (l : List UInt8) (hl : l.length ≤ 2000) (w : World) : Calls Try.prog 23 #[Str l] w (RetB (.tuple #[(readD l).val, .int .i64 (readE l)]) w) := by
  by_cases h12 : l.length < 12
  · have h := rread_short l h12 w
    rw [readD_no (by rw [readE_cut h12]; decide), readE_cut h12]
    exact h
  · have hC := cutd hl h12
    have hbl := hC.hbl
    by_cases hs : unbe (l.drop (l.length - 4)) = (crcS (l.take (l.length - 4)) : Nat)
    · have hE := readE_body h12 hs
      have hD := readD_ok (l := l)
      have hDn := readD_no (l := l)
      have hlbc : l = l.take (l.length - 4) ++ l.drop (l.length - 4) := (List.take_append_drop _ _).symm
      rw [hE] at hD hDn ⊢
      generalize readD l = y at *
      clear hE
      generalize l.take (l.length - 4) = b at *
      generalize l.drop (l.length - 4) = c at *
      obtain ⟨x0, x1, x2, x3, y0, y1, y2, y3, r, rfl⟩ := list_cons8 (l := b) (by omega)
      have hx3 : (⟨l.toArray⟩ : ByteArray).extract 0 2 = ⟨[x0, x1].toArray⟩ := by
        rw [ext_list, hlbc]
        rfl
      by_cases hm : [x0, x1] = [76, 83]
      · obtain ⟨rfl, rfl⟩ : x0 = 76 ∧ x1 = 83 := by simpa using hm
        have hrl : r.length ≤ 2000 := by have h1 := hC.hl; simp at hbl; omega
        have hH : headD (76 :: 83 :: x2 :: x3 :: y0 :: y1 :: y2 :: y3 :: r) = ⟨unbe [x2], unbe [x3], unbe [y0, y1, y2, y3], 0, 0, 0, 0, 0, [], []⟩ := rfl
        have hdr : (76 :: 83 :: x2 :: x3 :: y0 :: y1 :: y2 :: y3 :: r).drop 8 = r := rfl
        have hbE : bodyE (76 :: 83 :: x2 :: x3 :: y0 :: y1 :: y2 :: y3 :: r) = (if unbe [x2] < 1 ∨ 6 < unbe [x2] then 1 else if (fieldsD (hd0 (unbe [x2]) (unbe [x3]) (unbe [y0, y1, y2, y3])) r).2 ≠ 0 then (fieldsD (hd0 (unbe [x2]) (unbe [x3]) (unbe [y0, y1, y2, y3])) r).2 else dgE (fieldsD (hd0 (unbe [x2]) (unbe [x3]) (unbe [y0, y1, y2, y3])) r).1) := by
          unfold bodyE
          rw [hH, hdr, if_neg (by simp)]
        rw [hH, hdr] at hD
        have hx4 : (⟨l.toArray⟩ : ByteArray).extract 4 (76 :: 83 :: x2 :: x3 :: y0 :: y1 :: y2 :: y3 :: r).length = ⟨([y0, y1, y2, y3] ++ r).toArray⟩ := by
          rw [ext_list, hlbc, List.take_left]
          rfl
        have hg2 : l[2]? = some x2 := by rw [hlbc]; rfl
        have hg3 : l[3]? = some x3 := by rw [hlbc]; rfl
        have N := fun w => rnum_q (t0 ([y0, y1, y2, y3] ++ r)) 4 (by show ([y0, y1, y2, y3] ++ r).length ≤ _; simp; omega) w
        rw [show nx (t0 ([y0, y1, y2, y3] ++ r)) 4 = ([y0, y1, y2, y3], r, 0) from nx_back [] [y0, y1, y2, y3] r 4 rfl rfl] at N
        obtain ⟨z, q, d', HF, hR⟩ := fields_r (unbe [x2]) (unbe [x3]) (unbe [y0, y1, y2, y3]) r (by omega)
        have hln := fieldsD_len (hd0 (unbe [x2]) (unbe [x3]) (unbe [y0, y1, y2, y3])) r ⟨rfl, rfl⟩ hrl
        obtain ⟨hR1, hR2⟩ := hR
        generalize bodyE (76 :: 83 :: x2 :: x3 :: y0 :: y1 :: y2 :: y3 :: r) = EE at *
        generalize hd1 : (fieldsD (hd0 (unbe [x2]) (unbe [x3]) (unbe [y0, y1, y2, y3])) r).1 = d1 at *
        generalize hf2 : (fieldsD (hd0 (unbe [x2]) (unbe [x3]) (unbe [y0, y1, y2, y3])) r).2 = f2 at *
        have hq0 : q = 0 → f2 ≠ 4 := fun h e => by have := hR1 e; omega
        refine rread_main l _ c h12 hC hs x2 x3 ([y0, y1, y2, y3] ++ r) r hx3 hx4 hg2 hg3 _ _ _ (unbe_one x2) (unbe_one x3) N y d' EE q z HF ?_ ?_ ?_ ?_ ?_ w
        · intro h
          rw [if_pos h] at hbE
          exact ⟨hbE, hDn (by omega)⟩
        · intro h hq
          have h4 : f2 = 4 := by
            by_cases e : f2 = 4
            · exact e
            · exact absurd (hR2 e).1 hq
          have hq4 := hR1 h4
          rw [if_neg h, h4, if_pos (by decide)] at hbE
          exact ⟨by omega, hDn (by omega)⟩
        · intro h hq hz
          obtain ⟨_, h2, h3, h4⟩ := hR2 (hq0 hq)
          have h5 : f2 = 5 := by
            rcases h4 with e | e
            · exact absurd (h3.2 e) hz
            · exact e
          rw [if_neg h, h5, if_pos (by decide)] at hbE
          exact ⟨hbE, hDn (by omega)⟩
        · intro h hq hz
          obtain ⟨_, h2, h3, h4⟩ := hR2 (hq0 hq)
          have h5 := h3.1 hz
          rw [if_neg h, h5, if_neg (by decide), ← h2] at hbE
          refine ⟨hbE, ?_⟩
          by_cases e : dgE d' = 0
          · rw [if_pos e, h2]
            exact hD (by omega)
          · rw [if_neg e]
            exact hDn (by omega)
        · intro hq
          obtain ⟨_, h2, _, _⟩ := hR2 (hq0 hq)
          rw [h2]
          exact hln
      · have hE : bodyE (x0 :: x1 :: x2 :: x3 :: y0 :: y1 :: y2 :: y3 :: r) = 5 := by
          unfold bodyE
          rw [if_pos (by exact hm)]
        rw [hE] at hDn ⊢
        rw [hDn (by decide)]
        exact rread_badmagic l _ c h12 hC hs x0 x1 hx3 hm w
    · have hE := readE_sum h12 hs
      rw [readD_no (by rw [hE]; decide), hE]
      exact rread_badsum l _ _ h12 hC hs w
end Go.Proofs.Ytphejbjbleeigaa
