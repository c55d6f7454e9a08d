/-
  Rows of bytes: a row and a multiple of another one: the program's and the document's; whether a table may be; the identity; contracts (chapters 2, 3).
-/
import Derived.Test.YtibilabhokkhmaaMx2
namespace Go.Proofs.Ytibilabhokkhmaa
open Go.RowKit
set_option linter.unusedVariables false
set_option maxRecDepth 100000
set_option maxHeartbeats 1000000
theorem rmuladd_any (B : Nat) (va vb : Value) (xs ys : List Nat) (c : Nat) (hc : c < 256) (hn : xs.length ≤ 65536) (hn2 : ys.length ≤ 65536) (w : World) (ha : RowAt B w va xs) (hb : RowAt B w vb ys) : Calls Try.prog 70 #[va, .int .u8 c, vb] w (AddPost w xs (scaleL c ys)) := by
  have ha0 := ha
  have hb0 := hb
  obtain ⟨aa, ca, rfl, _⟩ := ha.at
  obtain ⟨ab, cb, rfl, _⟩ := hb.at
  clear ha hb
  go_enter Try.func70, Try.ntmps70
  go_wp2_with fail
  refine (rscale_any c hc B _ ys hn2 _ hb0).mono ?_
  rintro x w1 ⟨v, rfl, hr, hB⟩
  obtain ⟨av, cv, rfl, _⟩ := hr.at
  go_wp2_with fail
  refine (radd_any B _ _ xs (scaleL c ys) hn _ (ha0.chain hB) (hr.le (Nat.zero_le _))).mono ?_
  rintro x w2 ⟨u, rfl, hr2, hB2⟩
  have HP : Hid (AddPost w xs (scaleL c ys) (.returned (.tuple #[u, .int .i64 (lenE xs (scaleL c ys))])) w2) := ⟨u, rfl, hr2, Below.chain hB2 hB⟩
  clear hr hr2 hB hB2
  generalize lenE xs (scaleL c ys) = z at *
  go_wp2_with fail
  go_ret2
  exact HP.out
/-- The sum, so far. -/
def addSo (a b : List Nat) (m : Nat) : List Nat := (addL a b).take m ++ b.drop m
theorem addSo_zero (a b : List Nat) : addSo a b 0 = b := by simp [addSo]
theorem addSo_end (a b : List Nat) (h : a.length = b.length) : addSo a b a.length = addL a b := by
  unfold addSo
  rw [List.take_of_length_le (by rw [addL_length a b h]; exact Nat.le_refl _), List.drop_of_length_le (by omega), List.append_nil]
theorem addSo_length (a b : List Nat) (m : Nat) (h : a.length = b.length) (hm : m ≤ a.length) : (addSo a b m).length = b.length := by
  unfold addSo
  simp [addL_length a b h]
  omega
theorem addSo_get (a b : List Nat) (m : Nat) (h : a.length = b.length) (hm : m < a.length) : (addSo a b m)[m]'(by rw [addSo_length a b m h (by omega)]; omega) = b[m]'(by omega) := by
  unfold addSo
  have e : ((addL a b).take m).length = m := by rw [List.length_take, addL_length a b h]; omega
  rw [List.getElem_append_right (by omega)]
  simp [e]
theorem addSo_set (a b : List Nat) (m : Nat) (h : a.length = b.length) (hm : m < a.length) : (addSo a b m).set m (b[m]'(by omega) ^^^ a[m]) = addSo a b (m + 1) := by
  have := set_take (addL a b) b m (by rw [addL_length a b h]; exact hm) (by rw [addL_length a b h, h])
  unfold addSo
  rw [← this]
  congr 1
  simp [addL, Nat.xor_comm]
theorem muladd_any (B : Nat) (va vb : Value) (xs ys : List Nat) (c : Nat) (hc : c < 256) (hn2 : ys.length ≤ 65536) (w : World) (ha : RowAt B w va xs) (hb : RowAt B w vb ys) : Calls Try.prog 47 #[va, .int .u8 c, vb] w (AddPost w xs (scaleL c ys)) := by
  have ha0 := ha
  have hb0 := hb
  have hma := ha.max
  have hmb := hb.max
  obtain ⟨aa, ca, rfl, _⟩ := ha.at
  obtain ⟨ab, cb, rfl, _⟩ := hb.at
  clear ha hb
  by_cases hlen : xs.length = ys.length
  · have hl : ((xs.length : Int) != (ys.length : Int)) = false := by simp [hlen]
    have hlen' : xs.length = (scaleL c ys).length := by rw [scaleL_length]; exact hlen
    have HL := Lib.hid hlen
    have HL' := Lib.hid hlen'
    clear hlen'
    go_enter Try.func47, Try.ntmps47
    rw [← HL.out] at hb0 ⊢
    clear hlen hmb
    go_wp2_with fail
    refine (scale_any c hc B _ ys hn2 _ hb0).mono ?_
    rw [← HL.out]
    rintro x w1 ⟨rfl, hb, hB⟩
    go_wp2_with fail
    have hsl := scaleL_length c ys
    have HSL := Lib.hid hsl
    have HSLT := Lib.hid (scaleL_lt c ys)
    clear hsl
    go_loopw [10, 11, 26] (fun _ _ i wr => ∃ m : Nat, m ≤ xs.length ∧ i = .int .i64 m ∧ OwnB wr w.heap.size 0 (addSo xs (scaleL c ys) m) ∧ Below w.heap.size w wr) (fun _ _ i _ => xs.length - (intOf i).toNat)
    case atStart => exact ⟨0, by omega, rfl, by rw [addSo_zero]; exact hb, hB⟩
    case round =>
      clear hb hB
      obtain ⟨m, hm, rfl, hb, hB⟩ := hrel
      by_cases hlt : m < xs.length
      · have hx := ha0.2 xs[m] (by simp)
        have hlen2 := addSo_length xs (scaleL c ys) m HL'.out hm
        have hrd := hb.read m (by rw [hlen2, ← HL'.out]; exact hlt)
        rw [addSo_get xs (scaleL c ys) m HL'.out hlt, Nat.zero_add] at hrd
        have hy := HSLT.out ((scaleL c ys)[m]'(by rw [← HL'.out]; exact hlt)) (by simp)
        have hst := hb.store m ((scaleL c ys)[m]'(by rw [← HL'.out]; exact hlt) ^^^ xs[m]) (by rw [hlen2, ← HL'.out]; exact hlt) (nat_xor_lt hy hx)
        rw [addSo_set xs (scaleL c ys) m HL'.out hlt, Nat.zero_add] at hst
        have HST := Lib.hid hst
        have hfr := hb.1.free m
        obtain ⟨_, _, e, hc'⟩ := (ha0.chain hB).at
        cases e
        obtain ⟨g, off, rfl, hg, hck⟩ := hc' m hlt
        have hl := hb.1.lt
        have hxx := u8_xor_nat ((scaleL c ys)[m]'(by rw [← HL'.out]; exact hlt)) xs[m] hy hx
        clear hc' hst hb hlen2
        generalize xs[m] = x at *
        generalize (scaleL c ys)[m]'_ = y at *
        go_wp2_with fail
        go_roundw
        case rel => exact ⟨m + 1, by omega, by go_num, HST.out, hB.setCell (Nat.le_refl _) _⟩
        case measure => simp [intOf]; omega
      · obtain rfl : m = xs.length := by omega
        rw [addSo_end _ _ HL'.out] at hb
        have hr := hb.row (B := 0) (cap := xs.length) (by rw [addL_length _ _ HL'.out]; exact Nat.le_refl _) (by unfold maxLen; omega)
        rw [addL_length _ _ HL'.out] at hr
        have HP : Hid (AddPost w xs (scaleL c ys) (.returned (.tuple #[.slice (some ⟨w.heap.size, 0, none⟩) xs.length xs.length, .int .i64 0])) wr) := AddPost.yes HL'.out hr hB
        clear hb hr
        go_wp2_with fail
        go_ret2
        exact HP.out
  · have HP : Hid (AddPost w xs (scaleL c ys) (.returned (.tuple #[.slice none 0 0, .int .i64 16])) w) := AddPost.no (by rw [scaleL_length]; exact hlen) (Below.refl _ _)
    have hl : ((xs.length : Int) != (ys.length : Int)) = true := by simp; omega
    clear hlen
    go_enter Try.func47, Try.ntmps47
    go_wp2_with fail
    go_ret2
    exact HP.out
end Go.Proofs.Ytibilabhokkhmaa
