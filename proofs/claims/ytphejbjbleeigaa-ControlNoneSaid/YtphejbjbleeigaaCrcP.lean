/-
  The sum of a row of bytes (chapter 7): plain: what it is; a row in which one byte was changed has another.
-/
import Derived.Test.YtphejbjbleeigaaBase
namespace Go.Proofs.Ytphejbjbleeigaa
set_option linter.unusedVariables false
/-- A bit goes out. -/
def cb (c : Nat) : Nat := (c / 2) ^^^ (3988292384 * (c % 2))
def cbN : Nat → Nat → Nat
  | 0, c => c
  | n + 1, c => cbN n (cb c)
def cst (c x : Nat) : Nat := cbN 8 (c ^^^ x)
def crcF (c : Nat) (l : List UInt8) : Nat := l.foldl (fun c x => cst c x.toNat) c
/-- The sum. -/
def crcA (s : Nat) (l : List UInt8) : Nat := 4294967295 ^^^ crcF (4294967295 ^^^ s) l
def crcS (l : List UInt8) : Nat := crcA 0 l
theorem cb_even {c : Nat} (h : c % 2 = 0) : cb c = c / 2 := by unfold cb; rw [h, Nat.mul_zero, Nat.xor_zero]
theorem cb_odd {c : Nat} (h : c % 2 = 1) : cb c = (c / 2) ^^^ 3988292384 := by unfold cb; rw [h]
theorem cb_lt {c : Nat} (h : c < 4294967296) : cb c < 4294967296 := by
  rcases Nat.mod_two_eq_zero_or_one c with e | e
  · rw [cb_even e]; omega
  · rw [cb_odd e]; exact Nat.xor_lt_two_pow (n := 32) (by omega) (by decide)
theorem cb_high {c : Nat} (h : c < 4294967296) (e : c % 2 = 1) : 2147483648 ≤ cb c := by
  rw [cb_odd e]
  rcases Nat.lt_or_ge ((c / 2) ^^^ 3988292384) 2147483648 with hl | hl
  · exfalso
    have h1 : c / 2 < 2147483648 := by omega
    have h2 : (c / 2) ^^^ ((c / 2) ^^^ 3988292384) < 2147483648 := Nat.xor_lt_two_pow (n := 31) h1 hl
    rw [← Nat.xor_assoc, Nat.xor_self, Nat.zero_xor] at h2
    omega
  · exact hl
theorem xor_cancel {a b c : Nat} (h : a ^^^ c = b ^^^ c) : a = b := by
  have : a ^^^ c ^^^ c = b ^^^ c ^^^ c := by rw [h]
  rwa [Nat.xor_assoc, Nat.xor_self, Nat.xor_zero, Nat.xor_assoc, Nat.xor_self, Nat.xor_zero] at this
theorem cb_inj {a b : Nat} (ha : a < 4294967296) (hb : b < 4294967296) (h : cb a = cb b) : a = b := by
  rcases Nat.mod_two_eq_zero_or_one a with e | e <;> rcases Nat.mod_two_eq_zero_or_one b with f | f
  · rw [cb_even e, cb_even f] at h; omega
  · have := cb_high hb f
    rw [← h, cb_even e] at this; omega
  · have := cb_high ha e
    rw [h, cb_even f] at this; omega
  · rw [cb_odd e, cb_odd f] at h
    have := xor_cancel h
    omega
theorem cbN_lt : ∀ {n c : Nat}, c < 4294967296 → cbN n c < 4294967296
  | 0, _, h => h
  | n + 1, c, h => cbN_lt (n := n) (cb_lt h)
theorem cbN_inj : ∀ {n a b : Nat}, a < 4294967296 → b < 4294967296 → cbN n a = cbN n b → a = b
  | 0, _, _, _, _, h => h
  | n + 1, a, b, ha, hb, h => cb_inj ha hb (cbN_inj (n := n) (cb_lt ha) (cb_lt hb) h)
theorem xor32 {a b : Nat} (ha : a < 4294967296) (hb : b < 4294967296) : a ^^^ b < 4294967296 := Nat.xor_lt_two_pow (n := 32) ha hb
theorem cst_lt {c x : Nat} (h : c < 4294967296) (hx : x < 256) : cst c x < 4294967296 := cbN_lt (xor32 h (by omega))
theorem cst_inj {a b x : Nat} (ha : a < 4294967296) (hb : b < 4294967296) (hx : x < 256) (h : cst a x = cst b x) : a = b :=
  xor_cancel (cbN_inj (xor32 ha (by omega)) (xor32 hb (by omega)) h)
theorem cst_inj2 {a x y : Nat} (ha : a < 4294967296) (hx : x < 256) (hy : y < 256) (h : cst a x = cst a y) : x = y := by
  have := cbN_inj (xor32 ha (by omega)) (xor32 ha (by omega)) h
  rw [Nat.xor_comm a x, Nat.xor_comm a y] at this
  exact xor_cancel this
theorem u8_lt (x : UInt8) : x.toNat < 256 := x.toNat_lt
theorem crcF_lt : ∀ {l : List UInt8} {c : Nat}, c < 4294967296 → crcF c l < 4294967296
  | [], _, h => h
  | x :: l, c, h => crcF_lt (l := l) (cst_lt h (u8_lt x))
theorem crcF_append (c : Nat) (l m : List UInt8) : crcF c (l ++ m) = crcF (crcF c l) m := by unfold crcF; rw [List.foldl_append]
theorem crcF_inj : ∀ {l : List UInt8} {a b : Nat}, a < 4294967296 → b < 4294967296 → crcF a l = crcF b l → a = b
  | [], _, _, _, _, h => h
  | x :: l, a, b, ha, hb, h => cst_inj ha hb (u8_lt x) (crcF_inj (l := l) (cst_lt ha (u8_lt x)) (cst_lt hb (u8_lt x)) h)
theorem crcF_snoc (c : Nat) (l : List UInt8) (k : Nat) (h : k < l.length) : crcF c (l.take (k + 1)) = cst (crcF c (l.take k)) l[k].toNat := by
  rw [List.take_succ_eq_append_getElem h, crcF_append]
  rfl
theorem crcA_lt (s : Nat) (hs : s < 4294967296) (l : List UInt8) : crcA s l < 4294967296 := xor32 (by decide) (crcF_lt (xor32 (by decide) hs))
theorem crcS_lt (l : List UInt8) : crcS l < 4294967296 := crcA_lt 0 (by decide) l
/-- One byte is another: so is the sum. -/
theorem crcS_ne (l m : List UInt8) (x y : UInt8) (h : x ≠ y) : crcS (l ++ x :: m) ≠ crcS (l ++ y :: m) := by
  intro e
  have hc : (4294967295 ^^^ 0 : Nat) < 4294967296 := by decide
  unfold crcS crcA at e
  rw [Nat.xor_comm 4294967295 (crcF _ _), Nat.xor_comm 4294967295 (crcF _ (l ++ y :: m))] at e
  have e2 : crcF (4294967295 ^^^ 0) (l ++ x :: m) = crcF (4294967295 ^^^ 0) (l ++ y :: m) := xor_cancel e
  rw [crcF_append, crcF_append] at e2
  have hl := crcF_lt (l := l) hc
  have e3 := crcF_inj (l := m) (cst_lt hl (u8_lt x)) (cst_lt hl (u8_lt y)) e2
  exact h (UInt8.toNat.inj (cst_inj2 hl (u8_lt x) (u8_lt y) e3))
end Go.Proofs.Ytphejbjbleeigaa
