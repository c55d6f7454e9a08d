/-
  Datagrams: the datagram of bytes, whose sum and mark are right: the program's contract (chapter 10).
-/
import Derived.Test.YtphejbjbleeigaaDg9
namespace Go.Proofs.Ytphejbjbleeigaa
open Go.RowKit
set_option linter.unusedVariables false
set_option maxRecDepth 100000
set_option maxHeartbeats 800000
theorem read_gen (f1 f2 f3 f4 : Nat) (l b c : List UInt8) (h12 : ¬ l.length < 12) (hC : Cutd l b c) (hs : unbe c = (crcS b : Nat)) (x2 x3 : UInt8) (x4 r : List UInt8) (hx4 : x4.length = 4) (hbb : b = 76 :: 83 :: x2 :: x3 :: (x4 ++ r)) (kind stream block : Int) (hk : unbe [x2] = kind) (hst : unbe [x3] = stream) (hbk : unbe x4 = block) (E3 : Enters Try.prog f3)
    (HOf : ∀ w, Calls Try.prog 55 #[.int .i64 kind] w (RetB (.tuple #[.agg #[fnV f1, fnV f2, fnV f3, fnV f4], .bool true]) w))
    (H3 : ReadPost f3 ⟨kind, stream, block, 0, 0, 0, 0, 0, [], []⟩)
    (d' : Dg) (z : Int) (y : Dg) (hf1 : (fieldsD ⟨kind, stream, block, 0, 0, 0, 0, 0, [], []⟩ r).1 = d') (hf2 : (fieldsD ⟨kind, stream, block, 0, 0, 0, 0, 0, [], []⟩ r).2 = z)
    (hy : y = if z = 0 ∧ dgE d' = 0 then d' else dg0) (hbl' : d'.have'.length ≤ 9223372036854775807 ∧ d'.body.length ≤ 9223372036854775807) (w : World) :
    Calls Try.prog 22 #[Str l] w (RetB (.tuple #[y.val, .int .i64 (if z = 0 then dgE d' else z)]) w) := by
  unfold Enters at E3
  have HO := Lib.hid HOf
  have HD := Lib.hid H3
  have HF := Lib.hid (And.intro hf1 hf2)
  have HL := Lib.hid hbl'
  generalize hy2 : (if z = 0 then dgE d' else z) = zz
  have HY := Lib.hid (And.intro hy hy2)
  clear HOf H3 hf1 hf2 hy hbl' hy2
  have hd : (unbe c != ((crcS b : Nat) : Int)) = false := by simpa using hs
  have HQ1 : Hid (nb (t0 b) 2 = ([76, 83], x2 :: x3 :: (x4 ++ r), 0)) := Lib.hid (by rw [hbb]; exact nb_back [] [76, 83] _ 2 rfl)
  have HQ2 : Hid (nx ([76, 83], x2 :: x3 :: (x4 ++ r), 0) 1 = ([x2], x3 :: (x4 ++ r), 0)) := Lib.hid (nx_back _ [x2] _ 1 rfl rfl)
  have HQ3 : Hid (nx ([x2], x3 :: (x4 ++ r), 0) 1 = ([x3], x4 ++ r, 0)) := Lib.hid (nx_back _ [x3] _ 1 rfl rfl)
  have HQ4 : Hid (nx ([x3], x4 ++ r, 0) 4 = (x4, r, 0)) := Lib.hid (nx_back _ x4 _ 4 rfl (by omega))
  have kb : 0 ≤ kind ∧ kind < 256 := by have := unbe_lt [x2]; rw [hk] at this; simpa using this
  have sb : 0 ≤ stream ∧ stream < 256 := by have := unbe_lt [x3]; rw [hst] at this; simpa using this
  have bb : 0 ≤ block ∧ block < 4294967296 := by have := unbe_lt x4; rw [hbk, hx4] at this; simpa using this
  have HV := Lib.hid (And.intro hk (And.intro hst hbk))
  have HBB := Lib.hid hbb
  have HS := Lib.hid hs
  have hrl : r.length ≤ 2000 := by have h1 := hC.hl; have h2 := hC.hbl; rw [hbb] at h2; simp at h2; omega
  clear hs hbb hk hst hbk hx4
  obtain ⟨hl, hbl, hcl, hx1, hx2⟩ := hC
  have h4 : (4 : Int) ≤ l.length := by omega
  have h5 : (b.length : Int) ≤ l.length := by omega
  have hl2 : b.length ≤ 9223372036854775807 := by omega
  have hl3 : c.length ≤ 9223372036854775807 := by omega
  have HN := Lib.hid (new_any c hl3)
  have HX := Lib.hid (And.intro hx1 hx2)
  have HNx : Hid (nx (t0 c) 4 = (c, [], 0)) := Lib.hid (by
    have := nx_back [] c [] 4 rfl (by omega)
    rwa [List.append_nil] at this)
  have HB := Lib.hid (And.intro hbl hl)
  clear hx1 hx2 hl3 hcl hbl
  go_enter Try.func22, Try.ntmps22
  go_wp2_with fail
  rw [HX.out.1, HX.out.2]
  have k0 := Blk.new w #[.int .i64 0, .int .i64 0, .int .u32 0, .int .i64 0, .int .i64 0, .int .i64 0, .int .i64 0, .int .i64 0, .string ⟨#[]⟩, .string ⟨#[]⟩] 24
  refine (HN.out _).mono ?_
  rintro e w1 ⟨rfl, hr, hb⟩
  have k1 := k0.below hb k0.lt
  have hB := Below.chain hb (Below.chainAlloc (Below.refl _ _) _)
  rw [size_alloc] at hr
  have hn1 : w.heap.size ≠ w.heap.size + 1 := by omega
  have hs1 : w.heap.size ≤ w.heap.size + 1 := by omega
  clear hb k0 HN
  go_wp2_with fail
  have hN := num_t (w.heap.size + 1) (t0 c) 4 w1 hr
  rw [HNx.out] at hN
  refine hN.mono ?_
  rintro e w2 ⟨rfl, hr2, ho⟩
  have k2 := k1.only ho (by simp)
  have hB2 := Below.only hB ho (by simp)
  clear k1 hB ho hN hr hr2 hn1 hs1 HNx
  try simp only
  generalize hu : unbe c = u at *
  have HU := Lib.hid hu
  clear hu
  go_wp2_with fail
  refine (sum_crc b hl2 _).mono ?_
  rintro e w3 ⟨rfl, rfl⟩
  generalize (crcS b : Nat) = s at *
  go_wp2_with fail
  have hz2 := hB2.size
  refine (new_any b hl2 _).mono ?_
  rintro e w4 ⟨rfl, hr, hb⟩
  have k4 := k2.below hb k2.lt
  have hB4 := Below.chain hb hB2
  have hn1 : w.heap.size ≠ w2.heap.size := by have := k2.lt; omega
  clear hb hB2 k2
  go_wp2_with fail
  have hN := bytes_t w2.heap.size (t0 b) 2 w4 hr
  rw [HQ1.out] at hN
  refine hN.mono ?_
  rintro e w5 ⟨rfl, hr5, ho⟩
  have k5 := k4.only ho (by simpa using hn1)
  have hB5 := Below.only hB4 ho (by simpa using hz2)
  clear k4 hB4 ho hN hr HQ1
  go_wp2_with fail
  have hN := num_t w2.heap.size ([76, 83], x2 :: x3 :: (x4 ++ r), 0) 1 w5 hr5
  rw [HQ2.out, HV.out.1] at hN
  refine hN.mono ?_
  rintro e w6 ⟨rfl, hr6, ho⟩
  have k6 := k5.only ho (by simpa using hn1)
  have hB6 := Below.only hB5 ho (by simpa using hz2)
  clear k5 hB5 ho hN hr5 HQ2
  go_wp2_with fail
  have hN := num_t w2.heap.size ([x2], x3 :: (x4 ++ r), 0) 1 w6 hr6
  rw [HQ3.out, HV.out.2.1] at hN
  refine hN.mono ?_
  rintro e w7 ⟨rfl, hr7, ho⟩
  have k7 := k6.only ho (by simpa using hn1)
  have hB7 := Below.only hB6 ho (by simpa using hz2)
  clear k6 hB6 ho hN hr6 HQ3
  go_wp2_with fail
  have hN := num_t w2.heap.size ([x3], x4 ++ r, 0) 4 w7 hr7
  rw [HQ4.out, HV.out.2.2] at hN
  refine hN.mono ?_
  rintro e w8 ⟨rfl, hr8, ho⟩
  have k8 := k7.only ho (by simpa using hn1)
  have hB8 := Below.only hB7 ho (by simpa using hz2)
  have hz8 : w2.heap.size < w8.heap.size := hr8.1.lt
  clear k7 hB7 ho hN hr7 HQ4 HX HB HU hd h4 h5 hl2
  go_wp2_with fail
  refine (HO.out _).mono ?_
  rintro e w9 ⟨rfl, hb⟩
  have k9 := (k8.alloc _).below hb (k8.alloc _).lt
  have r9 : Rd w9 w2.heap.size r 0 := ⟨(hr8.1.alloc _).below hb (hr8.1.alloc _).lt, hr8.2⟩
  have d9 := (Blk.new w8 #[.int .i64 kind, .int .i64 stream, .int .u32 block, .int .i64 0, .int .i64 0, .int .i64 0, .int .i64 0, .int .i64 0, .string ⟨#[]⟩, .string ⟨#[]⟩] 24).below hb (by simp)
  have hB9 := Below.chain hb (Below.chainAlloc hB8 _)
  have hn8 : w.heap.size ≠ w8.heap.size := by have := hB8.size; have := k8.lt; omega
  have hn28 : w2.heap.size ≠ w8.heap.size := by omega
  clear hb k8 hr8 hB8 HO
  obtain ⟨c9, f9, l9⟩ := k9.facts
  have n99 : w.heap.size ≠ w9.heap.size := by omega
  clear c9 f9
  go_wp2_with fail
  have hP := HD.out w2.heap.size w8.heap.size r (w9.alloc (.cells #[fnV f1, fnV f2, fnV f3, fnV f4] 111)) (fun h => hn28 h.symm) ⟨r9.1.alloc _, r9.2⟩ (d9.alloc _)
  refine hP.mono ?_
  rintro e w10 ⟨rfl, ho, d2, l', e', hr10, hd10, K1, K2⟩
  have k10 := (k9.alloc (.cells #[fnV f1, fnV f2, fnV f3, fnV f4] 111)).only ho (by simp; exact ⟨hn1, hn8⟩)
  have hB10 := Below.only (Below.chainAlloc hB9 (.cells #[fnV f1, fnV f2, fnV f3, fnV f4] 111)) ho (by simp; exact ⟨hz2, by omega⟩)
  rw [HF.out.2] at K1 K2
  rw [HF.out.1] at K2
  clear hP ho k9 r9 d9 hB9 l9 n99 HD HF HV HBB HS E3 w1 w4 w5 w6 w7 kb sb bb hrl
  by_cases h4 : z = 4
  · obtain rfl := K1 h4
    have HZ := Lib.hid (show (4 : Int) = zz by rw [← HY.out.2, if_neg (by omega), h4])
    have HYd := Lib.hid (show dg0 = y by rw [HY.out.1, if_neg (by omega)])
    clear K1 K2 h4 HY
    go_wp2_with fail
    refine (err_any w2.heap.size l' 4 w10 hr10).mono ?_
    rintro e w11 ⟨rfl, rfl⟩
    obtain ⟨c10, f10, l10⟩ := k10.facts
    go_wp2_with fail
    rw [← HYd.out]
    exact read_end rfl (cells10 _ _ _ _ _ _ _ _ _ _ k10) (below10 _ _ _ _ _ _ _ _ _ _ hB10 (Nat.le_refl _)) rfl rfl rfl HZ.out
  · obtain ⟨rfl, rfl, hl0, hz05⟩ := K2 h4
    clear K1 K2 h4
    by_cases h0 : z = 0
    · have hl' : l' = [] := hl0.2 h0
      subst hl' h0
      have HZ := Lib.hid (show dgE d2 = zz by rw [← HY.out.2, if_pos rfl])
      have HYd := Lib.hid (show (if dgE d2 = 0 then d2 else dg0) = y by rw [HY.out.1]; simp)
      have HCk := Lib.hid (check_dg d2 HL.out.1 HL.out.2)
      clear HY hl0 hz05
      go_wp2_with fail
      refine (err_any w2.heap.size [] 0 w10 hr10).mono ?_
      rintro e w11 ⟨rfl, rfl⟩
      go_wp2_with fail
      refine (left_any w2.heap.size [] 0 w10 hr10).mono ?_
      rintro e w11 ⟨rfl, rfl⟩
      obtain ⟨kind', stream', block', index, k, n, len, credit, hv, body⟩ := d2
      have hd := hd10.facts.1
      simp only [Dg.vals] at hd
      have hd8 := hd10.lt
      go_wp2_with fail
      refine (HCk.out _).mono ?_
      rintro e w11 ⟨rfl, hb⟩
      have k11 := k10.below hb k10.lt
      have d11 := hd10.below hb hd10.lt
      have hB11 := Below.chain hb hB10
      clear hd hb k10 hd10 hB10 hr10 HCk
      obtain ⟨c11, f11, l11⟩ := k11.facts
      have hd := d11.facts.1
      simp only [Dg.vals] at hd
      have hd9 := d11.lt
      generalize hE : dgE ⟨kind', stream', block', index, k, n, len, credit, hv, body⟩ = E at *
      by_cases hE0 : E = 0
      · subst hE0
        have HYe := Lib.hid (show (⟨kind', stream', block', index, k, n, len, credit, hv, body⟩ : Dg) = y by rw [← HYd.out, if_pos rfl])
        clear HYd hE
        go_wp2_with fail
        rw [← HYe.out]
        exact read_end rfl (cells10 _ _ _ _ _ _ _ _ _ _ k11) (below10 _ _ _ _ _ _ _ _ _ _ hB11 (Nat.le_refl _)) rfl rfl rfl HZ.out
      · have HYe := Lib.hid (show dg0 = y by rw [← HYd.out, if_neg hE0])
        have hE1 : (E != 0) = true := by simpa using hE0
        clear HYd hE hE0
        go_wp2_with fail
        rw [← HYe.out]
        exact read_end rfl (cells10 _ _ _ _ _ _ _ _ _ _ k11) (below10 _ _ _ _ _ _ _ _ _ _ hB11 (Nat.le_refl _)) rfl rfl rfl HZ.out
    · obtain rfl : z = 5 := by omega
      have hl' : 0 < l'.length := by
        rcases Nat.eq_zero_or_pos l'.length with e | e
        · exact absurd (hl0.1 (List.eq_nil_of_length_eq_zero e)) h0
        · exact e
      have HZ := Lib.hid (show (5 : Int) = zz by rw [← HY.out.2, if_neg (by omega)])
      have HYd := Lib.hid (show dg0 = y by rw [HY.out.1, if_neg (by omega)])
      clear HY hl0 hz05 h0
      obtain ⟨x, t, rfl⟩ : ∃ x t, l' = x :: t := by
        cases l' with
        | nil => simp at hl'
        | cons x t => exact ⟨x, t, rfl⟩
      have hp2 : decide (0 < (t.length : Int) + 1) = true := by simp
      have hp3 : decide (0 < ((t.length + 1 : Nat) : Int)) = true := by simp
      go_wp2_with fail
      refine (err_any w2.heap.size (x :: t) 0 w10 hr10).mono ?_
      rintro e w11 ⟨rfl, rfl⟩
      go_wp2_with fail
      refine (left_any w2.heap.size (x :: t) 0 w10 hr10).mono ?_
      rintro e w11 ⟨rfl, rfl⟩
      obtain ⟨c10, f10, l10⟩ := k10.facts
      go_wp2_with fail
      rw [← HYd.out]
      exact read_end rfl (cells10 _ _ _ _ _ _ _ _ _ _ k10) (below10 _ _ _ _ _ _ _ _ _ _ hB10 (Nat.le_refl _)) rfl rfl rfl HZ.out
end Go.Proofs.Ytphejbjbleeigaa
