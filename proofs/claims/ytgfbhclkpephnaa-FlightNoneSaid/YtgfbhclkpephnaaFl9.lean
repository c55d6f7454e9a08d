/-
  Blocks that were sent: the example (chapter 22).
-/
import Derived.Test.YtgfbhclkpephnaaFl8
namespace Go.Proofs.Ytgfbhclkpephnaa
open Go Go.RowKit
set_option linter.unusedVariables false
set_option linter.unusedSimpArgs false
set_option maxRecDepth 100000
set_option maxHeartbeats 4000000
theorem Seg.keepB {w w' : World} {b size n k : Nat} {e t : TypeId} {v : Value} {xs : List Value} {cs : Array Value} (h : Seg w b e size v n xs) (hk : Blk w k cs t) (hn : e ≠ t) (ho : Only [k] w w') : Seg w' b e size v n xs :=
  h.only ho (fun y hy hm => h.ne_blk' hk hn y hy (by simpa using hm))
theorem Seg.keepS {w w' : World} {b size n b2 s2 n2 k o c : Nat} {e t : TypeId} {v : Value} {xs ys : List Value} (h : Seg w b e size v n xs) (hk : Seg w b2 t s2 (.slice (some ⟨k, o, none⟩) n2 c) n2 ys) (hn : e ≠ t) (ho : Only [k] w w') : Seg w' b e size v n xs :=
  h.only ho (fun y hy hm => by
    obtain ⟨cur, h1⟩ := h.heap' hy
    obtain ⟨cur2, h2⟩ := hk.heap' (g := k) rfl
    rw [List.mem_singleton.1 hm, h2] at h1
    cases h1
    exact hn rfl)
theorem chainB {W w w' : World} {bf : Nat} (hbf : W.heap.size = bf) (h : Below bf W w) (k : Below w.heap.size w w') : Below bf W w' := by
  rw [← hbf] at h ⊢
  exact Below.chain k h
theorem onlyB {W w w' : World} {bf : Nat} {X : List Nat} (hbf : W.heap.size = bf) (h : Below bf W w) (k : Only X w w') (hX : ∀ x ∈ X, bf ≤ x) : Below bf W w' := by
  rw [← hbf] at h hX ⊢
  exact Below.only h k hX
theorem seg_new (w : World) (cs : Array Value) (t : TypeId) (size n : Nat) (h : cs.size = n * size) (hn : n ≤ maxLen) : Seg (w.alloc (.cells cs t)) w.heap.size t size (.slice (some ⟨w.heap.size, 0, none⟩) n n) n cs.toList :=
  ⟨by simpa using h, .inr ⟨w.heap.size, 0, n, cs, rfl, Nat.le_refl _, Blk.new w cs t, Nat.le_refl _, hn, by omega, by rw [List.drop_zero, List.take_of_length_le (by simp [h])]⟩⟩
def x22 : FB := ⟨[120], 3, 5⟩
def x22' : FB := ⟨[120], 3, 9⟩
def y22 : FB := ⟨[121], 4, 7⟩
def s22 : List UInt8 := withB zero32 [1]
theorem s22_len : s22.length = 32 := by kernel_rfl
theorem s22_cnt : cntTo s22 256 = 1 := by kernel_rfl
theorem s22_mis : mis s22 3 1 = [0] := by kernel_rfl
theorem due22a : dueF 4294967295 9 3 [x22, y22] (List.range 2) = ([x22', y22], [4294967295]) := by kernel_rfl
theorem due22b : dueF 4294967295 9 3 [x22', y22] (List.range 2) = ([x22', y22], []) := by kernel_rfl
theorem awake22_ok (W : World) : Calls Try.prog 31 #[] W fun e w' => e = .returned (.bool true) ∧ Below W.heap.size W w' := by
  go_enter Try.func31, Try.ntmps31
  go_wp2_with fail
  refine (flnew_ok 4294967295 2 (by decide) (by decide) W).mono ?_
  rintro e w1 ⟨rfl, hm, hb⟩
  generalize hbf : W.heap.size = bf at *
  have HM1 := Lib.hid hm
  have HB1 := Lib.hid hb
  have HBF := Lib.hid hbf
  clear hm hb hbf
  go_wp2_with fail
  refine (flnew_bad 0 w1).mono ?_
  rintro e w2 ⟨rfl, rfl⟩
  go_wp2_with fail
  refine (fladd_ok [120] 3 5 HM1.out rfl (by decide) (by decide) (by decide) (by decide) HM1.out.k.lt).mono ?_
  rintro e w3 ⟨g, off, c, rfl, hm3, ho3⟩
  have HM3 : Hid (FlM w3 (bf + 1) bf 4294967295 2 (.slice (some ⟨g, off, none⟩) 1 c) [x22]) := Lib.hid hm3
  have HB3 : Hid (Below bf W w3) := Lib.hid (by
    have h1 := HB1.out
    rw [← HBF.out] at h1 ⊢
    exact Below.only h1 ho3 (by simp [Value.ownBlock]; rw [HBF.out]; exact Nat.le_refl _))
  clear hm3 ho3 HM1 HB1
  go_wp2_with fail
  refine (fladd_ok [121] 4 7 HM3.out rfl (by decide) (by decide) (by decide) (by decide) HM3.out.k.lt).mono ?_
  rintro e w4 ⟨g2, off2, c2, rfl, hm4, ho4⟩
  have HM4 : Hid (FlM w4 (bf + 1) bf 4294967295 2 (.slice (some ⟨g2, off2, none⟩) 2 c2) [x22, y22]) := Lib.hid hm4
  have HB4 : Hid (Below bf W w4) := Lib.hid (by
    have h1 := HB3.out
    have h2 := (HM3.out.s.blk g rfl).1
    rw [← HBF.out] at h1 h2 ⊢
    exact Below.only h1 ho4 (by simp [Value.ownBlock]; rw [HBF.out] at h2 ⊢; omega))
  clear hm4 ho4 HM3 HB3
  go_wp2_with fail
  refine (fladd_full [122] 4 7 HM4.out rfl (by decide) (by decide) (by decide)).mono ?_
  rintro e w5 ⟨rfl, hb5⟩
  have HM5 := Lib.hid (HM4.out.chain hb5)
  have HB5 : Hid (Below bf W w5) := Lib.hid (by
    have h1 := HB4.out
    rw [← HBF.out] at h1 ⊢
    exact Below.chain hb5 h1)
  clear hb5 HM4 HB4
  have hii : IsInts .i64 (w5.alloc (.cells #[.int .i64 1] 3)) (some ⟨w5.heap.size, 0, none⟩) 1 1 [1] :=
    ⟨rfl, Nat.le_refl _, by unfold maxLen; omega, fun z hz => by rw [List.mem_singleton.1 hz]; rfl, .inr ⟨w5.heap.size, 0, rfl, by simp, fun i hi => by
      obtain rfl : i = 0 := by simp at hi; omega
      exact (Blk.new w5 #[.int .i64 1] 3).facts.1 0⟩⟩
  have hba := Below.chainAlloc (Below.refl _ w5) (.cells #[.int .i64 1] 3)
  have HOF := Lib.hid (rof_any _ 1 1 [1] _ hii)
  have HM6 := Lib.hid (HM5.out.chain hba)
  have HB6 : Hid (Below bf W (w5.alloc (.cells #[.int .i64 1] 3))) := Lib.hid (by
    have h1 := HB5.out
    rw [← HBF.out] at h1 ⊢
    exact Below.chain hba h1)
  clear hii hba HM5 HB5
  go_wp2_with fail
  refine HOF.out.mono ?_
  rintro e w7 ⟨rfl, hb7⟩
  obtain ⟨sv, hsv⟩ : ∃ sv, withB zero32 [1] = sv := ⟨_, rfl⟩
  have q1 : sv.length = 32 := by rw [← hsv]; exact s22_len
  have q2 : cntTo sv 256 = 1 := by rw [← hsv]; exact s22_cnt
  have q3 : mis sv 3 1 = [0] := by rw [← hsv]; exact s22_mis
  rw [hsv]
  have HM7 := Lib.hid (HM6.out.chain hb7)
  have HB7 := Lib.hid (chainB HBF.out HB6.out hb7)
  have HWT := Lib.hid (flwants_ok (L := [x22, y22]) (b := 4294967295) 4294967295 sv 2 1 1 0 HM7.out 0 (by decide) (by decide) (by omega) (by decide) (by decide) q2 (by decide) (by decide) q3)
  clear hb7 HM6 HB6 HOF hsv q1 q2 q3
  go_wp2_with fail
  refine HWT.out.mono ?_
  rintro e w8 ⟨vW, rfl, hsW, hb8⟩
  have HM8 := Lib.hid (HM7.out.chain hb8)
  have HB8 := Lib.hid (chainB HBF.out HB7.out hb8)
  have HSW8 := Lib.hid hsW
  clear hb8 hsW HWT HM7 HB7
  have hg2 := (HM8.out.s.blk g2 rfl).1
  have HG2 : Hid (bf ≤ g2) := Lib.hid (by omega)
  clear hg2
  go_wp2_with fail
  refine (fldue_any 9 3 (by decide) (by decide) HM8.out rfl (by decide)).mono ?_
  rintro e w9 ⟨vL, rfl, hsL, hm9, ho9⟩
  rw [due22a] at hsL hm9
  have HM9 : Hid (FlM w9 (bf + 1) bf 4294967295 2 (.slice (some ⟨g2, off2, none⟩) 2 c2) [x22', y22]) := Lib.hid hm9
  have HB9 := Lib.hid (onlyB HBF.out HB8.out ho9 (by have := HG2.out; simp; omega))
  have HSW9 := Lib.hid (HSW8.out.keepS HM8.out.s (by decide) ho9)
  have HSL9 : Hid (Seg w9 (w8.heap.size + 4) 53 1 vL 1 [.int .u32 4294967295]) := Lib.hid hsL
  clear hsL hm9 ho9 HM8 HB8 HSW8
  go_wp2_with fail
  refine (fldue_any 9 3 (by decide) (by decide) HM9.out rfl (by decide)).mono ?_
  rintro e w10 ⟨vM, rfl, hsM, hm10, ho10⟩
  rw [due22b] at hsM hm10
  have HM10 : Hid (FlM w10 (bf + 1) bf 4294967295 2 (.slice (some ⟨g2, off2, none⟩) 2 c2) [x22', y22]) := Lib.hid hm10
  have HB10 := Lib.hid (onlyB HBF.out HB9.out ho10 (by have := HG2.out; simp; omega))
  have HSW10 := Lib.hid (HSW9.out.keepS HM9.out.s (by decide) ho10)
  have HSL10 := Lib.hid (HSL9.out.keepS HM9.out.s (by decide) ho10)
  obtain ⟨aM, cM, rfl⟩ := hsM.form
  clear hsM hm10 ho10 HM9 HB9 HSW9 HSL9
  have hcc : 2 ≤ c2 ∧ c2 ≤ maxLen := by
    rcases HM10.out.s.2 with ⟨h0, _⟩ | ⟨_, _, _, _, hv, _, _, hn, hc, _⟩
    · cases h0
    · cases hv
      exact ⟨hn, hc⟩
  have HAC := Lib.hid (flack_one (L := [y22]) 0 HM10.out (by decide) (by decide) (by decide) hcc.1 hcc.2)
  clear hcc
  go_wp2_with fail
  refine HAC.out.mono ?_
  rintro e w11 ⟨rfl, hm11, ho11⟩
  have HM11 : Hid (FlM w11 (bf + 1) bf 0 2 (.slice (some ⟨g2, off2 + 3, none⟩) 1 (c2 - 1)) [y22]) := Lib.hid hm11
  have HB11 := Lib.hid (onlyB HBF.out HB10.out ho11 (by simp))
  have HSW11 := Lib.hid (HSW10.out.keepB HM10.out.k (by decide) ho11)
  have HSL11 := Lib.hid (HSL10.out.keepB HM10.out.k (by decide) ho11)
  clear hm11 ho11 HM10 HB10 HSW10 HSL10 HAC
  go_wp2_with fail
  refine (flbody_ok (L := [y22]) (b := 0) 0 HM11.out 0 (by decide) (by decide)).mono ?_
  rintro e w12 ⟨rfl, hb12⟩
  have HM12 := Lib.hid (HM11.out.chain hb12)
  have HB12 := Lib.hid (chainB HBF.out HB11.out hb12)
  have HSW12 := Lib.hid (HSW11.out.chain hb12)
  have HSL12 := Lib.hid (HSL11.out.chain hb12)
  clear hb12 HM11 HB11 HSW11 HSL11
  rw [show ([y22][0] : FB).body = [121] from rfl, show ([y22][0] : FB).n = 4 from rfl]
  go_wp2_with fail
  have ha13 := Below.chainAlloc (Below.refl _ w12) (.cells #[.int .u32 4294967295, .int .i64 0] 127)
  have HS22 := Lib.hid (same22_one 4294967295 0 (HSW12.out.chain ha13) (seg_new w12 #[.int .u32 4294967295, .int .i64 0] 127 2 1 rfl (by unfold maxLen; omega)))
  have HM13 := Lib.hid (HM12.out.chain ha13)
  have HB13 := Lib.hid (chainB HBF.out HB12.out ha13)
  have HSL13 := Lib.hid (HSL12.out.chain ha13)
  clear ha13 HM12 HB12 HSW12 HSL12
  refine HS22.out.mono ?_
  rintro e w14 ⟨rfl, hb14⟩
  have HM14 := Lib.hid (HM13.out.chain hb14)
  have HB14 := Lib.hid (chainB HBF.out HB13.out hb14)
  have HSL14 := Lib.hid (HSL13.out.chain hb14)
  clear hb14 HM13 HB13 HSL13 HS22
  have ha15 := Below.chainAlloc (Below.refl _ w14) (.cells #[.int .u32 4294967295] 53)
  have HS15 := Lib.hid (same15_one 4294967295 (HSL14.out.chain ha15) (seg_new w14 #[.int .u32 4294967295] 53 1 1 rfl (by unfold maxLen; omega)))
  have HM15 := Lib.hid (HM14.out.chain ha15)
  have HB15 := Lib.hid (chainB HBF.out HB14.out ha15)
  clear ha15 HM14 HB14 HSL14
  go_wp2_with fail
  refine HS15.out.mono ?_
  rintro e w16 ⟨rfl, hb16⟩
  have HM16 := Lib.hid (HM15.out.chain hb16)
  have HB16 := Lib.hid (chainB HBF.out HB15.out hb16)
  clear hb16 HM15 HB15 HS15
  go_wp2_with fail
  refine (flbase_any HM16.out).mono ?_
  rintro e w17 ⟨rfl, rfl⟩
  go_wp2_with fail
  refine (flnext_any HM16.out (by decide)).mono ?_
  rintro e w18 ⟨rfl, hb18⟩
  have HM18 := Lib.hid (HM16.out.chain hb18)
  have HB18 := Lib.hid (chainB HBF.out HB16.out hb18)
  clear hb18 HM16 HB16
  go_wp2_with fail
  refine (fllen_any HM18.out).mono ?_
  rintro e w19 ⟨rfl, rfl⟩
  go_wp2_with fail
  refine (flack_none 9 HM18.out (by decide) (by decide)).mono ?_
  rintro e w20 ⟨rfl, hb20⟩
  have HB20 := Lib.hid (chainB HBF.out HB18.out hb20)
  clear hb20 HM18 HB18
  go_wp2_with fail
  go_ret
  exact ⟨rfl, by rw [HBF.out]; exact HB20.out⟩
end Go.Proofs.Ytgfbhclkpephnaa
