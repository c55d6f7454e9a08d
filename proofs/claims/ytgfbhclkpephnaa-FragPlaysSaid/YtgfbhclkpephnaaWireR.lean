/-
  Wire: the reader: contracts (chapter 9).
-/
import Derived.Test.YtgfbhclkpephnaaWire
namespace Go.Proofs.Ytgfbhclkpephnaa
open Go.RowKit
set_option maxRecDepth 100000
/-- What a reader takes: the bytes, what is left, the error. -/
def tk (l : List UInt8) (e n : Int) (bad : Bool) : List UInt8 × List UInt8 × Int :=
  if e ≠ 0 then ([], l, e) else if bad then ([], l, 1) else if (l.length : Int) < n then ([], l, 4) else (l.take n.toNat, l.drop n.toNat, 0)
def Rd (w : World) (b : Nat) (l : List UInt8) (e : Int) : Prop := Blk w b #[.string ⟨l.toArray⟩, .int .i64 e] 211 ∧ l.length ≤ 9223372036854775807
theorem ret_Str {l l' : List UInt8} (h : l = l') : Ending.returned (.string ⟨l.toArray⟩) = .returned (Str l') := by rw [h]
theorem take_any (b : Nat) (l : List UInt8) (e n : Int) (bad : Bool) (hn : bad = false → 0 ≤ n) (w : World) (hb : Rd w b l e) :
    Calls Try.prog 101 #[.pointer (some ⟨b, 0, none⟩), .int .i64 n, .bool bad] w fun x w' => x = .returned (Str (tk l e n bad).1) ∧ Rd w' b (tk l e n bad).2.1 (tk l e n bad).2.2 ∧ Only [b] w w' := by
  obtain ⟨hb, hl⟩ := hb
  obtain ⟨hc, hf, hlt⟩ := hb.facts
  by_cases he : e = 0
  · subst he
    cases bad
    · have hn := hn rfl
      by_cases hlen : (l.length : Int) < n
      · have ht : tk l 0 n false = ([], l, 4) := by simp [tk, hlen]
        rw [ht]
        clear ht
        go_enter Try.func101, Try.ntmps101
        go_wp2_with fail
        go_ret
        exact ⟨rfl, ⟨hb.setAt 1 _ (by simp), hl⟩, (Only.refl _ _).setCell _ _ (.inl (by simp))⟩
      · have ht : tk l 0 n false = (l.take n.toNat, l.drop n.toNat, 0) := by simp [tk, hlen]
        rw [ht]
        clear ht
        have hlen' : n ≤ (l.length : Int) := by omega
        go_enter Try.func101, Try.ntmps101
        go_wp2_with fail
        go_ret
        refine ⟨?_, ⟨?_, by simp; omega⟩, (Only.refl _ _).setCell _ _ (.inl (by simp))⟩
        · simp [ext_list, Str]
        · rw [ext_list]
          refine hb.setAt 0 _ ?_
          simp
    · have ht : tk l 0 n true = ([], l, 1) := by simp [tk]
      rw [ht]
      clear ht
      go_enter Try.func101, Try.ntmps101
      go_wp2_with fail
      go_ret
      exact ⟨rfl, ⟨hb.setAt 1 _ (by simp), hl⟩, (Only.refl _ _).setCell _ _ (.inl (by simp))⟩
  · have ht : tk l e n bad = ([], l, e) := by simp [tk, he]
    have he' : (e != 0) = true := by simpa using he
    rw [ht]
    clear ht
    go_enter Try.func101, Try.ntmps101
    go_wp2_with fail
    go_ret
    exact ⟨rfl, ⟨hb, hl⟩, Only.refl _ _⟩
theorem take_nil (n : Int) (bad : Bool) (w : World) : Calls Try.prog 101 #[.pointer none, .int .i64 n, .bool bad] w fun x w' => x = .returned (Str []) ∧ w = w' := by
  go_enter Try.func101, Try.ntmps101
  go_wp2_with fail
  go_ret
  exact ⟨rfl, rfl⟩
theorem new_any (l : List UInt8) (hl : l.length ≤ 9223372036854775807) (w : World) : Calls Try.prog 92 #[Str l] w fun x w' => x = .returned (.pointer (some ⟨w.heap.size, 0, none⟩)) ∧ Rd w' w.heap.size l 0 ∧ Below w.heap.size w w' := by
  unfold Str
  go_enter Try.func92, Try.ntmps92
  go_wp2_with fail
  go_ret
  exact ⟨rfl, ⟨Blk.new _ _ _, hl⟩, (Below.refl _ _).alloc (Nat.le_refl _) _⟩
theorem tk_short (l : List UInt8) (e n : Int) : (tk l e n (badB n)).1.length ≤ 4 := by
  unfold tk
  split
  · simp
  · split
    · simp
    · split
      · simp
      · rename_i h _
        rcases badB_no (by simpa using h) with rfl | rfl | rfl <;> simp <;> omega
theorem bad_pos (n : Int) (h : badB n = false) : 0 ≤ n := by rcases badB_no h with rfl | rfl | rfl <;> omega
theorem unbe_lt (l : List UInt8) : 0 ≤ unbe l ∧ unbe l < 256 ^ l.length := by
  induction hn : l.length generalizing l with
  | zero => simp at hn; subst hn; simp [unbe]
  | succ n ih =>
    have hne : l ≠ [] := by intro h; subst h; simp at hn
    rw [← List.dropLast_concat_getLast hne, unbe_snoc]
    have := ih l.dropLast (by simp [hn])
    have hc : (l.getLast hne).toNat < 256 := UInt8.toNat_lt _
    rw [Int.pow_succ]
    omega
theorem or_byte (x : Int) (c : Nat) (h0 : 0 ≤ x) (h1 : x < 16777216) (hc : c < 256) : bits .or .u32 (x * 256) ((c : Int) % 4294967296) = x * 256 + c := by
  obtain ⟨y, rfl⟩ := Int.eq_ofNat_of_zero_le h0
  have e1 : (y : Int) * 256 = ((y * 256 : Nat) : Int) := by omega
  have e2 : (c : Int) % 4294967296 = (c : Int) := by omega
  rw [e1, e2, u32_or_nat _ _ (by omega) (by omega), nat_join 8 _ _ (by omega) hc]
  omega
theorem byte_at (m : List UInt8) (k : Nat) (h : k < m.length) : (⟨m.toArray⟩ : ByteArray)[k]'(show k < m.toArray.size by simpa using h) = m[k] := rfl
theorem take_snoc' (m : List UInt8) (k : Nat) (h : k < m.length) : unbe (m.take (k + 1)) = unbe (m.take k) * 256 + (m[k].toNat : Int) := by
  rw [List.take_succ_eq_append_getElem h, unbe_snoc]
theorem num_any (b : Nat) (l : List UInt8) (e n : Int) (w : World) (hb : Rd w b l e) :
    Calls Try.prog 93 #[.pointer (some ⟨b, 0, none⟩), .int .i64 n] w fun x w' => x = .returned (.int .u32 (unbe (tk l e n (badB n)).1)) ∧ Rd w' b (tk l e n (badB n)).2.1 (tk l e n (badB n)).2.2 ∧ Only [b] w w' := by
  have hs := tk_short l e n
  have ht := take_any b l e n (badB n) (bad_pos n) w hb
  generalize (tk l e n (badB n)).1 = m at *
  generalize (tk l e n (badB n)).2.1 = l' at *
  generalize (tk l e n (badB n)).2.2 = e' at *
  have HT := Lib.hid ht
  clear ht hb
  go_enter Try.func93, Try.ntmps93
  go_wp2_with fail
  refine wp_scope_jumps 0 (fun a w' => Rd w' b l' e' ∧ Only [b] w w' ∧ ∃ (k : Nat) (x z : Int) (u8 u9 u10 u11 u12 u13 u14 u15 u16 u17 u18 u19 u20 u21 u22 u23 u24 u25 u26 : Value), x = unbe (m.take k) ∧ z = k ∧ k ≤ m.length ∧ a = { tmps := #[.pointer (some ⟨b, 0, none⟩), .int .i64 n, undef, undef, .int .u32 0, .string ⟨m.toArray⟩, .int .u32 x, .int .i64 z, u8, u9, u10, u11, u12, u13, u14, u15, u16, u17, u18, u19, u20, u21, u22, u23, u24, u25, u26], defers := [] }) (fun a _ => m.length - (intOf (a.tmps.getD 7 undef)).toNat) rfl ?_ ?_
  · go_wp2_with fail
    refine (bad_any _ _).mono ?_
    rintro x w1 ⟨rfl, rfl⟩
    go_wp2_with fail
    refine HT.out.mono ?_
    rintro x w1 ⟨rfl, h1, h2⟩
    have H1 := Lib.hid h1
    clear h1
    unfold Str
    go_wp2_with fail
    go_step3
    by_cases hm : 0 < m.length
    · have hv := take_snoc' m 0 hm
      have ho := or_byte 0 m[0].toNat (by omega) (by omega) (UInt8.toNat_lt _)
      have he : unbe (m.take 0) = 0 := rfl
      rw [he] at hv
      simp only [Int.zero_mul, Int.zero_add, Nat.zero_add] at hv ho
      have HV := Lib.hid hv
      have HO := Lib.hid ho
      clear hv he ho
      go_wp2_with fail
      go_step3
      exact ⟨rfl, H1.out, h2, 1, _, _, _, _, _, _, _, _, _, _, _, _, _, _, _, _, _, _, _, _, _, (by rw [byte_at m 0 hm, HO.out, HV.out]), rfl, by omega, rfl⟩
    · have hm0 : m = [] := List.eq_nil_of_length_eq_zero (by omega)
      subst hm0
      go_wp2_with fail
      simp only [Exit.jump]
      go_ret
      exact ⟨rfl, H1.out, h2⟩
  · rintro a w1 ⟨h1, h2, k, x, z, u8, u9, u10, u11, u12, u13, u14, u15, u16, u17, u18, u19, u20, u21, u22, u23, u24, u25, u26, hx, hz, hk, rfl⟩
    have H1 := Lib.hid h1
    subst hz
    by_cases hm : k < m.length
    · have hv := take_snoc' m k hm
      have hlt := unbe_lt (m.take k)
      have hp : (256 : Int) ^ (m.take k).length ≤ 16777216 := by
        have h3 : (m.take k).length ≤ 3 := by simp; omega
        have h4 : (m.take k).length = 0 ∨ (m.take k).length = 1 ∨ (m.take k).length = 2 ∨ (m.take k).length = 3 := by omega
        rcases h4 with h | h | h | h <;> rw [h] <;> decide
      have ho := or_byte x m[k].toNat (by omega) (by omega) (UInt8.toNat_lt _)
      rw [← hx] at hv hlt
      have HV := Lib.hid hv
      have HO := Lib.hid ho
      have HX := Lib.hid hx
      obtain ⟨x0, x1⟩ := hlt
      clear hv ho h1 hx
      go_wp2_with fail
      go_step3
      refine ⟨rfl, ⟨H1.out, h2, k + 1, _, _, _, _, _, _, _, _, _, _, _, _, _, _, _, _, _, _, _, _, _, (by rw [byte_at m k hm, HO.out, HV.out]), by omega, by omega, rfl⟩, ?_⟩
      simp [intOf]
      omega
    · subst hx
      clear h1
      go_wp2_with fail
      simp only [Exit.jump]
      go_ret
      refine ⟨?_, H1.out, h2⟩
      rw [List.take_of_length_le (by omega)]
      rfl
theorem num_nil (n : Int) (w : World) : Calls Try.prog 93 #[.pointer none, .int .i64 n] w fun x w' => x = .returned (.int .u32 0) ∧ w = w' := by
  go_enter Try.func93, Try.ntmps93
  go_wp2_with fail
  go_step3
  go_wp2_with fail
  refine (bad_any _ _).mono ?_
  rintro x w1 ⟨rfl, rfl⟩
  go_wp2_with fail
  refine (take_nil n _ w).mono ?_
  rintro x w1 ⟨rfl, rfl⟩
  unfold Str
  go_wp2_with fail
  go_step3
  go_wp2_with fail
  rw [Exit.noGoto_ret]
  go_ret
  exact ⟨rfl, rfl⟩
end Go.Proofs.Ytgfbhclkpephnaa
