/-
  Datagrams: the datagram of bytes: the program's contract (chapter 10).
-/
import Derived.Test.YtphejbjbleeigaaDg8
namespace Go.Proofs.Ytphejbjbleeigaa
open Go.RowKit
set_option linter.unusedVariables false
set_option maxRecDepth 100000
set_option maxHeartbeats 600000
abbrev zdg : Value := .agg #[.int .i64 0, .int .i64 0, .int .u32 0, .int .i64 0, .int .i64 0, .int .i64 0, .int .i64 0, .int .i64 0, .string ⟨#[]⟩, .string ⟨#[]⟩]
theorem read_end {f : Func} {w W : World} {b : Nat} {c0 c1 c2 c3 c4 c5 c6 c7 c8 c9 : Value} {z z' : Int} {A : Act} (hr : f.results = #[ResultVar.cell 2 24, ResultVar.tmp 3]) (kb : Blk W b #[c0, c1, c2, c3, c4, c5, c6, c7, c8, c9] 24) (hB : Below w.heap.size w W) (h2 : A.tmps[2]? = some (.pointer (some ⟨b, 0, none⟩))) (h3 : A.tmps[3]? = some (.int .i64 z)) (hd : A.defers = []) (hz : z = z') :
    bodyPost Try.prog f (RetB (.tuple #[.agg #[c0, c1, c2, c3, c4, c5, c6, c7, c8, c9], .int .i64 z']) w) Exit.ret A W := by
  subst hz
  have hc := kb.facts.1
  refine bodyPost_ret (v := .tuple #[.agg #[c0, c1, c2, c3, c4, c5, c6, c7, c8, c9], .int .i64 z]) ?_ hd ⟨rfl, hB⟩
  simp [results, hr, go_sem, h2, h3, hc]
theorem readE_cut {l : List UInt8} (h : l.length < 12) : readE l = 4 := by unfold readE; rw [if_pos h]
theorem readE_sum {l : List UInt8} (h : ¬ l.length < 12) (hs : unbe (l.drop (l.length - 4)) ≠ (crcS (l.take (l.length - 4)) : Nat)) : readE l = 6 := by unfold readE; rw [if_neg h, if_pos hs]
theorem readE_body {l : List UInt8} (h : ¬ l.length < 12) (hs : unbe (l.drop (l.length - 4)) = (crcS (l.take (l.length - 4)) : Nat)) : readE l = bodyE (l.take (l.length - 4)) := by unfold readE; rw [if_neg h, if_neg (by rw [hs]; simp)]
theorem readD_no {l : List UInt8} (h : readE l ≠ 0) : readD l = dg0 := by unfold readD; rw [if_neg h]
theorem readD_ok {l : List UInt8} (h : readE l = 0) : readD l = (fieldsD (headD (l.take (l.length - 4))) ((l.take (l.length - 4)).drop 8)).1 := by unfold readD; rw [if_pos h]
theorem zdg_val : dg0.val = zdg := rfl
/-- What is known of the bytes that are read. -/
structure Cutd (l b c : List UInt8) : Prop where
  hl : l.length ≤ 2000
  hbl : b.length = l.length - 4
  hcl : c.length = 4
  hx1 : (⟨l.toArray⟩ : ByteArray).extract 0 (l.length - 4) = ⟨b.toArray⟩
  hx2 : (⟨l.toArray⟩ : ByteArray).extract (l.length - 4) l.length = ⟨c.toArray⟩
theorem cutd {l : List UInt8} (hl : l.length ≤ 2000) (h12 : ¬ l.length < 12) : Cutd l (l.take (l.length - 4)) (l.drop (l.length - 4)) :=
  ⟨hl, by simp, by simp; omega, by rw [ext_list]; simp, by rw [ext_list]; simp⟩
theorem read_short (l : List UInt8) (h12 : l.length < 12) (w : World) : Calls Try.prog 22 #[Str l] w (RetB (.tuple #[zdg, .int .i64 4]) w) := by
  go_enter Try.func22, Try.ntmps22
  go_wp2_with fail
  have k0 := Blk.new w #[.int .i64 0, .int .i64 0, .int .u32 0, .int .i64 0, .int .i64 0, .int .i64 0, .int .i64 0, .int .i64 0, .string ⟨#[]⟩, .string ⟨#[]⟩] 24
  exact read_end rfl k0 (Below.chainAlloc (Below.refl _ _) _) rfl rfl rfl rfl
theorem str_ne' {a b : List UInt8} (h : a ≠ b) : (⟨a.toArray⟩ : ByteArray) ≠ ⟨b.toArray⟩ := fun e => h (by have := congrArg (fun x : ByteArray => x.data.toList) e; simpa using this)
theorem read_badsum (l b c : List UInt8) (h12 : ¬ l.length < 12) (hC : Cutd l b c) (hs : unbe c ≠ (crcS b : Nat)) (w : World) : Calls Try.prog 22 #[Str l] w (RetB (.tuple #[zdg, .int .i64 6]) w) := by
  have hd : (unbe c != ((crcS b : Nat) : Int)) = true := by simpa using hs
  clear hs
  obtain ⟨hl, hbl, hcl, hx1, hx2⟩ := hC
  have h4 : (4 : Int) ≤ l.length := by omega
  have h5 : (b.length : Int) ≤ l.length := by omega
  have hl2 : b.length ≤ 9223372036854775807 := by omega
  have hl3 : c.length ≤ 9223372036854775807 := by omega
  have HN := Lib.hid (new_any c hl3)
  have HX := Lib.hid (And.intro hx1 hx2)
  have HNx : Hid (nx (t0 c) 4 = (c, [], 0)) := Lib.hid (by
    have := nx_back [] c [] 4 rfl (by omega)
    rwa [List.append_nil] at this)
  have HB := Lib.hid (And.intro hbl hl)
  clear hx1 hx2 hl3 hcl hbl
  go_enter Try.func22, Try.ntmps22
  go_wp2_with fail
  rw [HX.out.1, HX.out.2]
  have k0 := Blk.new w #[.int .i64 0, .int .i64 0, .int .u32 0, .int .i64 0, .int .i64 0, .int .i64 0, .int .i64 0, .int .i64 0, .string ⟨#[]⟩, .string ⟨#[]⟩] 24
  refine (HN.out _).mono ?_
  rintro e w1 ⟨rfl, hr, hb⟩
  have k1 := k0.below hb k0.lt
  have hB := Below.chain hb (Below.chainAlloc (Below.refl _ _) _)
  rw [size_alloc] at hr
  have hn1 : w.heap.size ≠ w.heap.size + 1 := by omega
  have hs1 : w.heap.size ≤ w.heap.size + 1 := by omega
  clear hb k0 HN
  go_wp2_with fail
  have hN := num_t (w.heap.size + 1) (t0 c) 4 w1 hr
  rw [HNx.out] at hN
  refine hN.mono ?_
  rintro e w2 ⟨rfl, hr2, ho⟩
  have k2 := k1.only ho (by simp)
  have hB2 := Below.only hB ho (by simp)
  clear k1 hB ho hN hr hr2 hn1 hs1 HNx
  try simp only
  generalize hu : unbe c = u at *
  have HU := Lib.hid hu
  clear hu
  go_wp2_with fail
  refine (sum_crc b hl2 _).mono ?_
  rintro e w3 ⟨rfl, rfl⟩
  generalize (crcS b : Nat) = s at *
  obtain ⟨c2, f2, l2⟩ := k2.facts
  go_wp2_with fail
  exact read_end rfl (cells10 _ _ _ _ _ _ _ _ _ _ k2) (below10 _ _ _ _ _ _ _ _ _ _ hB2 (by omega)) rfl rfl rfl rfl
theorem read_badmagic (l b c : List UInt8) (h12 : ¬ l.length < 12) (hC : Cutd l b c) (hs : unbe c = (crcS b : Nat)) (x0 x1 : UInt8) (r : List UInt8) (hbb : b = x0 :: x1 :: r) (hm : [x0, x1] ≠ [76, 83]) (w : World) : Calls Try.prog 22 #[Str l] w (RetB (.tuple #[zdg, .int .i64 5]) w) := by
  have hd : (unbe c != ((crcS b : Nat) : Int)) = false := by simpa using hs
  have HQ1 : Hid (nb (t0 b) 2 = ([x0, x1], r, 0)) := Lib.hid (by rw [hbb]; exact nb_back [] [x0, x1] r 2 rfl)
  have hm1 : (ByteArray.toList ⟨[x0, x1].toArray⟩ == ByteArray.toList ⟨#[76, 83]⟩) = false := by rw [show (⟨#[76, 83]⟩ : ByteArray) = ⟨[76, 83].toArray⟩ from rfl, str_beq]; simpa using hm
  have hm2 : ([x0, x1] == [76, 83]) = false := by simpa using hm
  have hm3 : ¬ ([x0, x1] = [76, 83]) := hm
  clear hs hbb hm
  obtain ⟨hl, hbl, hcl, hx1, hx2⟩ := hC
  have h4 : (4 : Int) ≤ l.length := by omega
  have h5 : (b.length : Int) ≤ l.length := by omega
  have hl2 : b.length ≤ 9223372036854775807 := by omega
  have hl3 : c.length ≤ 9223372036854775807 := by omega
  have HN := Lib.hid (new_any c hl3)
  have HX := Lib.hid (And.intro hx1 hx2)
  have HNx : Hid (nx (t0 c) 4 = (c, [], 0)) := Lib.hid (by
    have := nx_back [] c [] 4 rfl (by omega)
    rwa [List.append_nil] at this)
  have HB := Lib.hid (And.intro hbl hl)
  clear hx1 hx2 hl3 hcl hbl
  go_enter Try.func22, Try.ntmps22
  go_wp2_with fail
  rw [HX.out.1, HX.out.2]
  have k0 := Blk.new w #[.int .i64 0, .int .i64 0, .int .u32 0, .int .i64 0, .int .i64 0, .int .i64 0, .int .i64 0, .int .i64 0, .string ⟨#[]⟩, .string ⟨#[]⟩] 24
  refine (HN.out _).mono ?_
  rintro e w1 ⟨rfl, hr, hb⟩
  have k1 := k0.below hb k0.lt
  have hB := Below.chain hb (Below.chainAlloc (Below.refl _ _) _)
  rw [size_alloc] at hr
  have hn1 : w.heap.size ≠ w.heap.size + 1 := by omega
  have hs1 : w.heap.size ≤ w.heap.size + 1 := by omega
  clear hb k0 HN
  go_wp2_with fail
  have hN := num_t (w.heap.size + 1) (t0 c) 4 w1 hr
  rw [HNx.out] at hN
  refine hN.mono ?_
  rintro e w2 ⟨rfl, hr2, ho⟩
  have k2 := k1.only ho (by simp)
  have hB2 := Below.only hB ho (by simp)
  clear k1 hB ho hN hr hr2 hn1 hs1 HNx
  try simp only
  generalize hu : unbe c = u at *
  have HU := Lib.hid hu
  clear hu
  go_wp2_with fail
  refine (sum_crc b hl2 _).mono ?_
  rintro e w3 ⟨rfl, rfl⟩
  generalize (crcS b : Nat) = s at *
  go_wp2_with fail
  have hz2 := hB2.size
  refine (new_any b hl2 _).mono ?_
  rintro e w4 ⟨rfl, hr, hb⟩
  have k4 := k2.below hb k2.lt
  have hB4 := Below.chain hb hB2
  have hn1 : w.heap.size ≠ w2.heap.size := by have := k2.lt; omega
  clear hb hB2 k2
  go_wp2_with fail
  have hN := bytes_t w2.heap.size (t0 b) 2 w4 hr
  rw [HQ1.out] at hN
  refine hN.mono ?_
  rintro e w5 ⟨rfl, hr5, ho⟩
  have k5 := k4.only ho (by simpa using hn1)
  have hB5 := Below.only hB4 ho (by simpa using hz2)
  clear k4 hB4 ho hN hr HQ1
  generalize hx : [x0, x1] = x at *
  clear hx
  obtain ⟨c5, f5, l5⟩ := k5.facts
  go_wp2_with fail
  exact read_end rfl (cells10 _ _ _ _ _ _ _ _ _ _ k5) (below10 _ _ _ _ _ _ _ _ _ _ hB5 (by omega)) rfl rfl rfl rfl
end Go.Proofs.Ytphejbjbleeigaa
