/-
  Wire: the reference's functions (chapter 9).
-/
import Derived.Test.YtgfbhclkpephnaaWireR
namespace Go.Proofs.Ytgfbhclkpephnaa
open Go.RowKit
set_option maxRecDepth 100000
def rNumPost (l : List UInt8) (e n : Int) (w : World) (x : Ending) (w' : World) : Prop :=
  x = .returned (.tuple #[.agg #[.string ⟨(tk l e n (badB n)).2.1.toArray⟩, .int .i64 (tk l e n (badB n)).2.2], .int .u32 (unbe (tk l e n (badB n)).1)]) ∧ Below w.heap.size w w'
theorem rnum_err (l : List UInt8) (e n : Int) (he : ¬ e = 0) (w : World) : Calls Try.prog 67 #[.agg #[.string ⟨l.toArray⟩, .int .i64 e], .int .i64 n] w (rNumPost l e n w) := by
  have he' : (e != 0) = true := by simpa using he
  have ht : tk l e n (badB n) = ([], l, e) := by simp [tk, he]
  have H : Hid (tk l e n (badB n) = ([], l, e)) := Lib.hid ht
  clear ht
  go_enter Try.func67, Try.ntmps67
  go_wp2
  refine bodyPost_ret (v := .tuple #[.agg #[.string ⟨l.toArray⟩, .int .i64 e], .int .u32 0]) (by simp [results, Try.results67, go_sem]) rfl ⟨?_, ?_⟩
  · rw [H.out]; rfl
  · exact ((Below.refl _ _).alloc (Nat.le_refl _) _).alloc (by simp) _
theorem below2 (w : World) (o o' : Obj) : Below w.heap.size w ((w.alloc o).alloc o') := ((Below.refl _ _).alloc (Nat.le_refl _) _).alloc (by simp) _
theorem rnum_bad (l : List UInt8) (n : Int) (hb : badB n = true) (w : World) : Calls Try.prog 67 #[.agg #[.string ⟨l.toArray⟩, .int .i64 0], .int .i64 n] w (rNumPost l 0 n w) := by
  have H : Hid (tk l 0 n (badB n) = ([], l, 1)) := by simp [tk, hb, Hid]
  have h1 : (n != 1) = true := by unfold badB at hb; simp at hb; simp [hb]
  have h2 : (n != 2) = true := by unfold badB at hb; simp at hb; simp [hb]
  have h4 : (n != 4) = true := by unfold badB at hb; simp at hb; simp [hb]
  clear hb
  go_enter Try.func67, Try.ntmps67
  go_wp2
  refine bodyPost_ret (v := .tuple #[.agg #[.string ⟨l.toArray⟩, .int .i64 1], .int .u32 0]) (by simp [results, Try.results67, go_sem]) rfl ⟨?_, below2 _ _ _⟩
  rw [H.out]; rfl
theorem rnum_cut (l : List UInt8) (n : Int) (hb : badB n = false) (hl : (l.length : Int) < n) (w : World) : Calls Try.prog 67 #[.agg #[.string ⟨l.toArray⟩, .int .i64 0], .int .i64 n] w (rNumPost l 0 n w) := by
  have H : Hid (tk l 0 n (badB n) = ([], l, 4)) := by simp [tk, hb, Hid, hl]
  rcases badB_no hb with rfl | rfl | rfl
  all_goals
    clear hb
    go_enter Try.func67, Try.ntmps67
    go_wp2
    refine bodyPost_ret (v := .tuple #[.agg #[.string ⟨l.toArray⟩, .int .i64 4], .int .u32 0]) (by simp [results, Try.results67, go_sem]) rfl ⟨?_, below2 _ _ _⟩
    rw [H.out]; rfl
theorem byte_get (m : List UInt8) (k : Nat) (h : k < (⟨m.toArray⟩ : ByteArray).size) : (⟨m.toArray⟩ : ByteArray)[k]'h = m[k]'(show k < m.length from by simpa using (show k < m.toArray.size from h)) := rfl
theorem rnum_1 (a : UInt8) (l : List UInt8) (_hl : (a :: l).length ≤ 9223372036854775807) (w : World) : Calls Try.prog 67 #[.agg #[.string ⟨(a :: l).toArray⟩, .int .i64 0], .int .i64 1] w (rNumPost (a :: l) 0 1 w) := by
  have H : Hid (tk (a :: l) 0 1 (badB 1) = ([a], l, 0)) := by
    have : badB 1 = false := by decide
    simp [tk, this, Hid]
    omega
  have hl := _hl
  simp only [List.length_cons] at hl
  have ha : a.toNat < 256 := UInt8.toNat_lt a
  have hbg := byte_get
  go_enter Try.func67, Try.ntmps67
  go_wp2
  refine wp_loop_rounds 2 ?_
  iterate 2 (rw [rounds_succ]; go_wp2)
  refine bodyPost_ret (v := .tuple #[.agg #[.string ((⟨(a :: l).toArray⟩ : ByteArray).extract 1 (l.length + 1)), .int .i64 0], .int .u32 ((a.toNat : Int))]) (by simp [results, Try.results67, go_sem]) rfl ⟨?_, below2 _ _ _⟩
  rw [H.out, ext_list]
  simp [unbe]
theorem rnum_2 (a b : UInt8) (l : List UInt8) (hl : (a :: b :: l).length ≤ 9223372036854775807) (w : World) : Calls Try.prog 67 #[.agg #[.string ⟨(a :: b :: l).toArray⟩, .int .i64 0], .int .i64 2] w (rNumPost (a :: b :: l) 0 2 w) := by
  have H : Hid (tk (a :: b :: l) 0 2 (badB 2) = ([a, b], l, 0)) := by
    have : badB 2 = false := by decide
    simp [tk, this, Hid]
    omega
  simp only [List.length_cons] at hl
  have ha : a.toNat < 256 := UInt8.toNat_lt a
  have hb : b.toNat < 256 := UInt8.toNat_lt b
  have hbg := byte_get
  go_enter Try.func67, Try.ntmps67
  go_wp2
  refine wp_loop_rounds 3 ?_
  iterate 3 (rw [rounds_succ]; go_wp2)
  refine bodyPost_ret (v := .tuple #[.agg #[.string ((⟨(a :: b :: l).toArray⟩ : ByteArray).extract 2 (l.length + 1 + 1)), .int .i64 0], .int .u32 (((a.toNat : Int) * 256 + (b.toNat : Int)))]) (by simp [results, Try.results67, go_sem]) rfl ⟨?_, below2 _ _ _⟩
  rw [H.out, ext_list]
  simp [unbe]
theorem rnum_4 (a b c d : UInt8) (l : List UInt8) (hl : (a :: b :: c :: d :: l).length ≤ 9223372036854775807) (w : World) : Calls Try.prog 67 #[.agg #[.string ⟨(a :: b :: c :: d :: l).toArray⟩, .int .i64 0], .int .i64 4] w (rNumPost (a :: b :: c :: d :: l) 0 4 w) := by
  have H : Hid (tk (a :: b :: c :: d :: l) 0 4 (badB 4) = ([a, b, c, d], l, 0)) := by
    have : badB 4 = false := by decide
    simp [tk, this, Hid]
    omega
  simp only [List.length_cons] at hl
  have ha : a.toNat < 256 := UInt8.toNat_lt a
  have hb : b.toNat < 256 := UInt8.toNat_lt b
  have hc : c.toNat < 256 := UInt8.toNat_lt c
  have hd : d.toNat < 256 := UInt8.toNat_lt d
  have hbg := byte_get
  go_enter Try.func67, Try.ntmps67
  go_wp2
  refine wp_loop_rounds 5 ?_
  iterate 5 (rw [rounds_succ]; go_wp2)
  refine bodyPost_ret (v := .tuple #[.agg #[.string ((⟨(a :: b :: c :: d :: l).toArray⟩ : ByteArray).extract 4 (l.length + 1 + 1 + 1 + 1)), .int .i64 0], .int .u32 (((((a.toNat : Int) * 256 + (b.toNat : Int)) * 256 + (c.toNat : Int)) * 256 + (d.toNat : Int)))]) (by simp [results, Try.results67, go_sem]) rfl ⟨?_, below2 _ _ _⟩
  rw [H.out, ext_list]
  simp [unbe]
theorem rnum_any (l : List UInt8) (e n : Int) (hl : l.length ≤ 9223372036854775807) (w : World) : Calls Try.prog 67 #[.agg #[.string ⟨l.toArray⟩, .int .i64 e], .int .i64 n] w (rNumPost l e n w) := by
  by_cases he : e = 0
  · subst he
    cases hb : badB n
    · by_cases hc : (l.length : Int) < n
      · exact rnum_cut l n hb hc w
      · rcases badB_no hb with rfl | rfl | rfl
        · match l, hl, hc with
          | a :: l, hl, _ => exact rnum_1 a l hl w
          | [], _, hc => simp at hc
        · match l, hl, hc with
          | a :: b :: l, hl, _ => exact rnum_2 a b l hl w
          | [a], _, hc => simp at hc
          | [], _, hc => simp at hc
        · match l, hl, hc with
          | a :: b :: c :: d :: l, hl, _ => exact rnum_4 a b c d l hl w
          | [a, b, c], _, hc => simp at hc
          | [a, b], _, hc => simp at hc
          | [a], _, hc => simp at hc
          | [], _, hc => simp at hc
    · exact rnum_bad l n hb w
  · exact rnum_err l e n he w
def rBytesPost (l : List UInt8) (e n : Int) (w : World) (x : Ending) (w' : World) : Prop :=
  x = .returned (.tuple #[.agg #[.string ⟨(tk l e n (decide (n < 0))).2.1.toArray⟩, .int .i64 (tk l e n (decide (n < 0))).2.2], .string ⟨(tk l e n (decide (n < 0))).1.toArray⟩]) ∧ Below w.heap.size w w'
theorem rput_bad (n size : Int) (hb : badB size = true) (w : World) : Calls Try.prog 66 #[.int .u32 n, .int .i64 size] w fun e w' => e = .returned (.tuple #[Str (putS n size), .int .i64 (putE n size)]) ∧ Below w.heap.size w w' := by
  have hE : putE n size = 1 := by simp [putE, hb]
  have hS : putS n size = [] := by simp [putS, hE]
  rw [hE, hS]
  have h1 : (size != 1) = true := by unfold badB at hb; simp at hb; simp [hb]
  have h2 : (size != 2) = true := by unfold badB at hb; simp at hb; simp [hb]
  have h4 : (size != 4) = true := by unfold badB at hb; simp at hb; simp [hb]
  clear hE hS hb
  go_enter Try.func66, Try.ntmps66
  go_wp2
  go_ret2
  exact ⟨rfl, Below.refl _ _⟩
theorem run_str_one (w : World) (g : Nat) (hg : g = w.heap.size) (c : Int) : (convert 44 9 (.slice (some ⟨g, 0, none⟩) 1 1)).run Try.prog (w.alloc (.cells #[.int .u8 c] 5)) = .ok (.string ⟨#[U8 c]⟩) (w.alloc (.cells #[.int .u8 c] 5)) := by
  subst hg
  exact run_str_new (P := Try.prog) w 44 9 5 5 1 [c] [] Try.underlying44 Try.underlying5 Try.underlying9 (0, 0)
theorem be4' (n : Int) : be n 4 = [U8 (n / 256 / 256 / 256), U8 (n / 256 / 256), U8 (n / 256), U8 n] := rfl
theorem app_lists (x y : List UInt8) : (⟨x.toArray⟩ ++ ⟨y.toArray⟩ : ByteArray) = ⟨(x ++ y).toArray⟩ := ByteArray.mk_append_mk x y
theorem rput1_no (n : Int) (h1 : 256 ≤ n) (_h2 : n < 4294967296) (w : World) : Calls Try.prog 66 #[.int .u32 n, .int .i64 1] w fun e w' => e = .returned (.tuple #[Str (putS n 1), .int .i64 (putE n 1)]) ∧ Below w.heap.size w w' := by
  have hb : badB 1 = false := by decide
  have hE : putE n 1 = 2 := by simp [putE, hb]; omega
  have hS : putS n 1 = [] := by simp [putS, hE]
  rw [hE, hS]
  clear hE hS hb
  go_enter Try.func66, Try.ntmps66
  go_wp2
  go_ret2
  exact ⟨rfl, Below.refl _ _⟩
theorem rput1_ok (n : Int) (h0 : 0 ≤ n) (h1 : n < 256) (w : World) : Calls Try.prog 66 #[.int .u32 n, .int .i64 1] w fun e w' => e = .returned (.tuple #[Str (putS n 1), .int .i64 (putE n 1)]) ∧ Below w.heap.size w w' := by
  have hb : badB 1 = false := by decide
  have hE : putE n 1 = 0 := by simp [putE, hb]; omega
  have hS : putS n 1 = be n 1 := by simp [putS, hE]
  rw [hE, hS]
  have HS := Lib.hid (be1 n)
  clear hE hS hb
  have hcv := run_str_one
  have hap := app_lists
  go_enter Try.func66, Try.ntmps66
  go_wp2
  refine wp_loop_rounds 2 ?_
  iterate 2 (rw [rounds_succ]; go_wp2)
  go_ret2
  refine ⟨ret_str_int ?_ rfl, ?_⟩
  · rw [HS.out]
    try simp (disch := omega) only [U8_mod]
  · repeat (first | exact Below.refl _ _ | apply Below.chainAlloc)
theorem rput2_no (n : Int) (h1 : 65536 ≤ n) (_h2 : n < 4294967296) (w : World) : Calls Try.prog 66 #[.int .u32 n, .int .i64 2] w fun e w' => e = .returned (.tuple #[Str (putS n 2), .int .i64 (putE n 2)]) ∧ Below w.heap.size w w' := by
  have hb : badB 2 = false := by decide
  have hE : putE n 2 = 2 := by simp [putE, hb]; omega
  have hS : putS n 2 = [] := by simp [putS, hE]
  rw [hE, hS]
  clear hE hS hb
  go_enter Try.func66, Try.ntmps66
  go_wp2
  go_ret2
  exact ⟨rfl, Below.refl _ _⟩
theorem rput2_ok (n : Int) (h0 : 0 ≤ n) (h1 : n < 65536) (w : World) : Calls Try.prog 66 #[.int .u32 n, .int .i64 2] w fun e w' => e = .returned (.tuple #[Str (putS n 2), .int .i64 (putE n 2)]) ∧ Below w.heap.size w w' := by
  have hb : badB 2 = false := by decide
  have hE : putE n 2 = 0 := by simp [putE, hb]; omega
  have hS : putS n 2 = be n 2 := by simp [putS, hE]
  rw [hE, hS]
  have HS := Lib.hid (be2 n)
  clear hE hS hb
  have hcv := run_str_one
  have hap := app_lists
  go_enter Try.func66, Try.ntmps66
  go_wp2
  refine wp_loop_rounds 3 ?_
  iterate 3 (rw [rounds_succ]; go_wp2)
  go_ret2
  refine ⟨ret_str_int ?_ rfl, ?_⟩
  · rw [HS.out]
    try simp (disch := omega) only [U8_mod]
  · repeat (first | exact Below.refl _ _ | apply Below.chainAlloc)
theorem rput4_ok (n : Int) (h0 : 0 ≤ n) (h1 : n < 4294967296) (w : World) : Calls Try.prog 66 #[.int .u32 n, .int .i64 4] w fun e w' => e = .returned (.tuple #[Str (putS n 4), .int .i64 (putE n 4)]) ∧ Below w.heap.size w w' := by
  have hb : badB 4 = false := by decide
  have hE : putE n 4 = 0 := by simp [putE, hb]
  have hS : putS n 4 = be n 4 := by simp [putS, hE]
  rw [hE, hS]
  have HS := Lib.hid (be4' n)
  clear hE hS hb
  have hcv := run_str_one
  have hap := app_lists
  go_enter Try.func66, Try.ntmps66
  go_wp2
  refine wp_loop_rounds 5 ?_
  iterate 5 (rw [rounds_succ]; go_wp2)
  go_ret2
  refine ⟨ret_str_int ?_ rfl, ?_⟩
  · rw [HS.out]
    try simp (disch := omega) only [U8_mod]
  · repeat (first | exact Below.refl _ _ | apply Below.chainAlloc)
theorem rput_any (n size : Int) (h0 : 0 ≤ n) (h1 : n < 4294967296) (w : World) : Calls Try.prog 66 #[.int .u32 n, .int .i64 size] w fun e w' => e = .returned (.tuple #[Str (putS n size), .int .i64 (putE n size)]) ∧ Below w.heap.size w w' := by
  cases hb : badB size
  · rcases badB_no hb with rfl | rfl | rfl
    · by_cases h : n < 256
      · exact rput1_ok n h0 h w
      · exact rput1_no n (by omega) h1 w
    · by_cases h : n < 65536
      · exact rput2_ok n h0 h w
      · exact rput2_no n (by omega) h1 w
    · exact rput4_ok n h0 h1 w
  · exact rput_bad n size hb w
end Go.Proofs.Ytgfbhclkpephnaa
