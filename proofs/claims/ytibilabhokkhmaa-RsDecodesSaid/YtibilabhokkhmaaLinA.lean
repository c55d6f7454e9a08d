/-
  The field of bytes as a type of its own; finite sums, tables as functions; more vectors than places depend on each other. Plain.
-/
import Derived.Test.YtibilabhokkhmaaGf
namespace Go.Proofs.Ytibilabhokkhmaa
set_option linter.unusedVariables false
/-- The program's product is linear in its second number. -/
theorem mulbit_xor (a b c : Nat) : a * ((b ^^^ c) % 2) = (a * (b % 2)) ^^^ (a * (c % 2)) := by
  have hx : (b ^^^ c) % 2 = (b % 2) ^^^ (c % 2) := by
    have := Nat.xor_mod_two_pow (a := b) (b := c) (n := 1)
    simpa using this
  rw [hx]
  rcases Nat.mod_two_eq_zero_or_one b with h | h <;> rcases Nat.mod_two_eq_zero_or_one c with h' | h' <;> simp [h, h']
theorem div2_xor (b c : Nat) : (b ^^^ c) / 2 = (b / 2) ^^^ (c / 2) := by
  have := Nat.shiftRight_xor_distrib (a := b) (b := c) (i := 1)
  simpa [Nat.shiftRight_succ] using this
theorem xor4 (p q x y : Nat) : (p ^^^ q) ^^^ (x ^^^ y) = (p ^^^ x) ^^^ (q ^^^ y) := by
  rw [Nat.xor_assoc, Nat.xor_assoc, ← Nat.xor_assoc q x y, Nat.xor_comm q x, Nat.xor_assoc x q y]
theorem mulGo_xor : ∀ n p q a b c, mulGo n (p ^^^ q) a (b ^^^ c) = mulGo n p a b ^^^ mulGo n q a c
  | 0, _, _, _, _, _ => rfl
  | n + 1, p, q, a, b, c => by
    unfold mulGo
    rw [mulbit_xor, div2_xor, xor4]
    exact mulGo_xor n _ _ _ _ _
theorem gm_xor_right (a b c : Nat) (ha : a < 256) (hb : b < 256) (hc : c < 256) : gm a (b ^^^ c) = gm a b ^^^ gm a c := by
  rw [← gmul_gm a _ ha (Nat.xor_lt_two_pow (n := 8) hb hc), ← gmul_gm a b ha hb, ← gmul_gm a c ha hc]
  unfold gmul
  have := mulGo_xor 8 0 0 a b c
  rwa [Nat.xor_self] at this
/-- A byte of the field. -/
structure Fd where
  v : Nat
  h : v < 256
theorem Fd.eq {a b : Fd} (h : a.v = b.v) : a = b := by
  cases a; cases b; cases h; rfl
instance : Add Fd := ⟨fun a b => ⟨a.v ^^^ b.v, Nat.xor_lt_two_pow (n := 8) a.h b.h⟩⟩
instance : Mul Fd := ⟨fun a b => ⟨gm a.v b.v, gm_lt _ _⟩⟩
instance : OfNat Fd 0 := ⟨⟨0, by decide⟩⟩
instance : OfNat Fd 1 := ⟨⟨1, by decide⟩⟩
instance : DecidableEq Fd := fun a b => if h : a.v = b.v then isTrue (Fd.eq h) else isFalse (fun e => h (by rw [e]))
theorem Fd.add_v (a b : Fd) : (a + b).v = a.v ^^^ b.v := rfl
theorem Fd.mul_v (a b : Fd) : (a * b).v = gm a.v b.v := rfl
theorem Fd.add_comm (a b : Fd) : a + b = b + a := Fd.eq (Nat.xor_comm _ _)
theorem Fd.add_assoc (a b c : Fd) : a + b + c = a + (b + c) := Fd.eq (Nat.xor_assoc _ _ _)
theorem Fd.zero_add (a : Fd) : 0 + a = a := Fd.eq (Nat.zero_xor _)
theorem Fd.add_zero (a : Fd) : a + 0 = a := Fd.eq (Nat.xor_zero _)
theorem Fd.add_self (a : Fd) : a + a = 0 := Fd.eq (Nat.xor_self _)
theorem Fd.mul_comm (a b : Fd) : a * b = b * a := Fd.eq (gm_comm _ _)
theorem Fd.mul_assoc (a b c : Fd) : a * b * c = a * (b * c) := Fd.eq (gm_assoc _ _ _)
theorem Fd.one_mul (a : Fd) : 1 * a = a := Fd.eq (gm_one_left a.v a.h)
theorem Fd.mul_one (a : Fd) : a * 1 = a := Fd.eq (gm_one_right a.v a.h)
theorem Fd.zero_mul (a : Fd) : 0 * a = 0 := Fd.eq (gm_zero_left a.v)
theorem Fd.mul_zero (a : Fd) : a * 0 = 0 := Fd.eq (gm_zero_right a.v)
theorem Fd.mul_add (a b c : Fd) : a * (b + c) = a * b + a * c := Fd.eq (gm_xor_right _ _ _ a.h b.h c.h)
theorem Fd.add_mul (a b c : Fd) : (a + b) * c = a * c + b * c := by rw [Fd.mul_comm, Fd.mul_add, Fd.mul_comm c a, Fd.mul_comm c b]
instance : Std.Associative (α := Fd) (· + ·) := ⟨Fd.add_assoc⟩
instance : Std.Commutative (α := Fd) (· + ·) := ⟨Fd.add_comm⟩
instance : Std.Associative (α := Fd) (· * ·) := ⟨Fd.mul_assoc⟩
instance : Std.Commutative (α := Fd) (· * ·) := ⟨Fd.mul_comm⟩
theorem Fd.add_cancel {a b : Fd} (h : a + b = 0) : a = b := by
  have : a + b + b = b := by rw [h, Fd.zero_add]
  rwa [Fd.add_assoc, Fd.add_self, Fd.add_zero] at this
theorem Fd.add_left {a b c : Fd} (h : a + b = a + c) : b = c := by
  have : a + (a + b) = a + (a + c) := by rw [h]
  rwa [← Fd.add_assoc, ← Fd.add_assoc, Fd.add_self, Fd.zero_add, Fd.zero_add] at this
def Fd.inv (a : Fd) : Fd := ⟨gi a.v, expT_lt _⟩
theorem Fd.pos {a : Fd} (h : a ≠ 0) : 0 < a.v := by
  rcases Nat.eq_zero_or_pos a.v with e | e
  · exact absurd (Fd.eq (b := 0) e) h
  · exact e
theorem Fd.mul_inv {a : Fd} (h : a ≠ 0) : a * a.inv = 1 := Fd.eq (gi_facts a.v (Fd.pos h) a.h).2.2
theorem Fd.inv_mul {a : Fd} (h : a ≠ 0) : a.inv * a = 1 := by rw [Fd.mul_comm, Fd.mul_inv h]
theorem Fd.one_ne : (1 : Fd) ≠ 0 := fun e => by
  have := congrArg Fd.v e
  exact absurd this (by decide)
theorem Fd.inv_ne {a : Fd} (h : a ≠ 0) : a.inv ≠ 0 := fun e => by
  have := Fd.mul_inv h
  rw [e, Fd.mul_zero] at this
  exact Fd.one_ne this.symm
theorem Fd.eq_zero_of_mul {a b : Fd} (h : a * b = 0) (ha : a ≠ 0) : b = 0 := by
  have : a.inv * (a * b) = 0 := by rw [h, Fd.mul_zero]
  rwa [← Fd.mul_assoc, Fd.inv_mul ha, Fd.one_mul] at this
theorem Fd.mul_ne {a b : Fd} (ha : a ≠ 0) (hb : b ≠ 0) : a * b ≠ 0 := fun h => hb (Fd.eq_zero_of_mul h ha)

/-! Sums. -/
def sm : Nat → (Nat → Fd) → Fd
  | 0, _ => 0
  | n + 1, f => sm n f + f n
theorem sm_congr : ∀ {n : Nat} {f g : Nat → Fd}, (∀ i, i < n → f i = g i) → sm n f = sm n g
  | 0, _, _, _ => rfl
  | n + 1, f, g, h => by
    show sm n f + f n = sm n g + g n
    rw [sm_congr (fun i hi => h i (by omega)), h n (by omega)]
theorem sm_zero : ∀ {n : Nat} {f : Nat → Fd}, (∀ i, i < n → f i = 0) → sm n f = 0
  | 0, _, _ => rfl
  | n + 1, f, h => by
    show sm n f + f n = 0
    rw [sm_zero (fun i hi => h i (by omega)), h n (by omega), Fd.add_zero]
theorem sm_add : ∀ (n : Nat) (f g : Nat → Fd), sm n (fun i => f i + g i) = sm n f + sm n g
  | 0, _, _ => (Fd.add_zero 0).symm
  | n + 1, f, g => by
    show sm n (fun i => f i + g i) + (f n + g n) = (sm n f + f n) + (sm n g + g n)
    rw [sm_add n f g]
    ac_rfl
theorem sm_mul : ∀ (n : Nat) (c : Fd) (f : Nat → Fd), c * sm n f = sm n (fun i => c * f i)
  | 0, c, _ => Fd.mul_zero c
  | n + 1, c, f => by
    show c * (sm n f + f n) = sm n (fun i => c * f i) + c * f n
    rw [Fd.mul_add, sm_mul n c f]
theorem sm_mulr (n : Nat) (c : Fd) (f : Nat → Fd) : sm n f * c = sm n (fun i => f i * c) := by
  rw [Fd.mul_comm, sm_mul]
  exact sm_congr (fun i _ => Fd.mul_comm _ _)
theorem sm_swap : ∀ (n m : Nat) (f : Nat → Nat → Fd), sm n (fun i => sm m (fun j => f i j)) = sm m (fun j => sm n (fun i => f i j))
  | 0, m, f => (sm_zero (fun _ _ => rfl)).symm
  | n + 1, m, f => by
    show sm n (fun i => sm m (fun j => f i j)) + sm m (fun j => f n j) = sm m (fun j => sm n (fun i => f i j) + f n j)
    rw [sm_swap n m f, sm_add]
theorem sm_one : ∀ {n k : Nat} {f : Nat → Fd}, k < n → (∀ i, i < n → i ≠ k → f i = 0) → sm n f = f k
  | 0, k, _, h, _ => absurd h (Nat.not_lt_zero _)
  | n + 1, k, f, h, hz => by
    show sm n f + f n = f k
    by_cases e : k = n
    · subst e
      rw [sm_zero (fun i hi => hz i (by omega) (by omega)), Fd.zero_add]
    · rw [sm_one (k := k) (by omega) (fun i hi hk => hz i (by omega) hk), hz n (by omega) (by omega), Fd.add_zero]
/-- All but one. -/
def skp (p i : Nat) : Nat := if i < p then i else i + 1
theorem skp_lt {p i n : Nat} (h : i < n) : skp p i < n + 1 := by unfold skp; split <;> omega
theorem skp_ne (p i : Nat) : skp p i ≠ p := by unfold skp; split <;> omega
theorem skp_of {p j : Nat} (h : j ≠ p) : ∃ i, skp p i = j ∧ ∀ n, j < n + 1 → p < n + 1 → i < n := by
  by_cases e : j < p
  · exact ⟨j, by unfold skp; rw [if_pos e], fun n h1 h2 => by omega⟩
  · exact ⟨j - 1, by unfold skp; rw [if_neg (by omega)]; omega, fun n h1 h2 => by omega⟩
theorem sm_skip : ∀ (n p : Nat) (f : Nat → Fd), p < n + 1 → sm (n + 1) f = sm n (fun i => f (skp p i)) + f p
  | 0, p, f, h => by
    obtain rfl : p = 0 := by omega
    rfl
  | n + 1, p, f, h => by
    show sm (n + 1) f + f (n + 1) = _
    by_cases e : p = n + 1
    · subst e
      congr 1
      exact sm_congr (fun i hi => by unfold skp; rw [if_pos hi])
    · rw [sm_skip n p f (by omega)]
      show _ = (sm n (fun i => f (skp p i)) + f (skp p n)) + f p
      rw [show skp p n = n + 1 by unfold skp; rw [if_neg (by omega)]]
      ac_rfl

/-! Tables. -/
abbrev Mt := Nat → Nat → Fd
def idm : Mt := fun i j => if i = j then 1 else 0
def mm (r : Nat) (A B : Mt) : Mt := fun i j => sm r (fun k => A i k * B k j)
theorem mm_assoc (r s : Nat) (A B C : Mt) (i j : Nat) : mm s (mm r A B) C i j = mm r A (mm s B C) i j := by
  unfold mm
  have h1 : ∀ k, sm r (fun l => A i l * B l k) * C k j = sm r (fun l => A i l * B l k * C k j) := fun k => sm_mulr _ _ _
  have h2 : ∀ l, A i l * sm s (fun k => B l k * C k j) = sm s (fun k => A i l * B l k * C k j) := fun l => by
    rw [sm_mul]
    exact sm_congr (fun k _ => (Fd.mul_assoc _ _ _).symm)
  simp only [h1, h2]
  exact sm_swap _ _ _
theorem mm_congr {r : Nat} {A A' B B' : Mt} {i j : Nat} (h1 : ∀ k, k < r → A i k = A' i k) (h2 : ∀ k, k < r → B k j = B' k j) : mm r A B i j = mm r A' B' i j :=
  sm_congr (fun k hk => by rw [h1 k hk, h2 k hk])
theorem mm_id {n : Nat} (A : Mt) {i j : Nat} (h : j < n) : mm n A idm i j = A i j := by
  unfold mm
  rw [sm_one h (fun k _ hk => by unfold idm; rw [if_neg hk, Fd.mul_zero])]
  unfold idm
  rw [if_pos rfl, Fd.mul_one]
theorem id_mm {n : Nat} (A : Mt) {i j : Nat} (h : i < n) : mm n idm A i j = A i j := by
  unfold mm
  rw [sm_one h (fun k _ hk => by unfold idm; rw [if_neg (fun e => hk e.symm), Fd.zero_mul])]
  unfold idm
  rw [if_pos rfl, Fd.one_mul]
/-- More vectors than places: some sum of them is none. -/
theorem depend : ∀ (r s : Nat) (P : Mt), r < s → ∃ v : Nat → Fd, (∃ i, i < s ∧ v i ≠ 0) ∧ ∀ j, j < r → sm s (fun i => v i * P i j) = 0
  | 0, s, P, h => ⟨fun _ => 1, ⟨0, h, Fd.one_ne⟩, fun j hj => absurd hj (Nat.not_lt_zero _)⟩
  | r + 1, s, P, h => by
    by_cases hz : ∀ i, i < s → P i r = 0
    · obtain ⟨v, hv, h0⟩ := depend r s P (by omega)
      refine ⟨v, hv, fun j hj => ?_⟩
      by_cases e : j = r
      · subst e
        exact sm_zero (fun i hi => by rw [hz i hi, Fd.mul_zero])
      · exact h0 j (by omega)
    · obtain ⟨p, hp, hne⟩ : ∃ p, p < s ∧ P p r ≠ 0 := Classical.byContradiction fun hn => hz fun i hi => Classical.byContradiction fun hx => hn ⟨i, hi, hx⟩
      obtain ⟨n, rfl⟩ : ∃ n, s = n + 1 := ⟨s - 1, by omega⟩
      obtain ⟨v, ⟨i0, hi0, hv0⟩, h0⟩ := depend r n (fun i j => P (skp p i) j + P (skp p i) r * (P p r).inv * P p j) (by omega)
      let c : Nat → Fd := fun i => P (skp p i) r * (P p r).inv
      let u : Nat → Fd := fun k => if k = p then sm n (fun i => v i * c i) else if k < p then v k else v (k - 1)
      have hus : ∀ i, u (skp p i) = v i := fun i => by
        show (if skp p i = p then _ else _) = _
        rw [if_neg (skp_ne p i)]
        unfold skp
        by_cases e : i < p
        · simp [e]
        · simp [e, show ¬ i + 1 < p by omega]
      have hup : u p = sm n (fun i => v i * c i) := if_pos rfl
      refine ⟨u, ⟨skp p i0, skp_lt hi0, by rw [hus]; exact hv0⟩, fun j hj => ?_⟩
      rw [sm_skip n p _ hp]
      simp only [hus, hup]
      rw [sm_mulr, ← sm_add]
      by_cases e : j = r
      · subst e
        refine sm_zero (fun i hi => ?_)
        show v i * P (skp p i) j + v i * (P (skp p i) j * (P p j).inv) * P p j = 0
        rw [Fd.mul_assoc (v i), Fd.mul_assoc (P (skp p i) j), Fd.inv_mul hne, Fd.mul_one, Fd.add_self]
      · have := h0 j (by omega)
        rw [← this]
        refine sm_congr (fun i hi => ?_)
        show v i * P (skp p i) j + v i * (P (skp p i) r * (P p r).inv) * P p j = v i * (P (skp p i) j + P (skp p i) r * (P p r).inv * P p j)
        rw [Fd.mul_add, Fd.mul_assoc (v i)]
theorem id_le {s r : Nat} {P Q : Mt} (h : ∀ i j, i < s → j < s → mm r P Q i j = idm i j) : s ≤ r := by
  rcases Nat.lt_or_ge r s with hl | hl
  · exfalso
    obtain ⟨v, ⟨i, hi, hv⟩, h0⟩ := depend r s P hl
    apply hv
    have h1 : mm s (fun _ k => v k) idm 0 i = v i := mm_id _ hi
    have h2 : mm s (fun _ k => v k) idm 0 i = mm s (fun _ k => v k) (mm r P Q) 0 i := mm_congr (fun _ _ => rfl) (fun k hk => (h k i hk hi).symm)
    rw [← h1, h2, ← mm_assoc]
    exact sm_zero (fun k hk => by
      have : mm s (fun _ k => v k) P 0 k = 0 := h0 k hk
      rw [this, Fd.zero_mul])
  · exact hl
/-- A table of n rows of m places has rank r. -/
def Rk (n m : Nat) (A : Mt) (r : Nat) : Prop := (∃ C R : Mt, ∀ i j, i < n → j < m → A i j = mm r C R i j) ∧ (∃ X Y : Mt, ∀ i j, i < r → j < r → mm m (mm n X A) Y i j = idm i j)
/-- What goes through t has no greater rank. -/
theorem Rk.le_of {n m : Nat} {A : Mt} {r t : Nat} {C R : Mt} (h : Rk n m A r) (hc : ∀ i j, i < n → j < m → A i j = mm t C R i j) : r ≤ t := by
  obtain ⟨_, X, Y, h2⟩ := h
  refine id_le (P := mm n X C) (Q := mm m R Y) (fun i j hi hj => ?_)
  rw [← h2 i j hi hj, ← mm_assoc]
  refine mm_congr (fun k hk => ?_) (fun _ _ => rfl)
  rw [mm_assoc]
  exact mm_congr (fun _ _ => rfl) (fun l hl => (hc l k hl hk).symm)
theorem Rk.unique {n m : Nat} {A : Mt} {r t : Nat} (h : Rk n m A r) (h' : Rk n m A t) : r = t := by
  obtain ⟨C, R, hc⟩ := h.1
  obtain ⟨C', R', hc'⟩ := h'.1
  exact Nat.le_antisymm (h.le_of hc') (h'.le_of hc)
theorem Rk.congr {n m : Nat} {A A' : Mt} {r : Nat} (h : Rk n m A r) (he : ∀ i j, i < n → j < m → A i j = A' i j) : Rk n m A' r := by
  obtain ⟨⟨C, R, hc⟩, X, Y, h2⟩ := h
  refine ⟨⟨C, R, fun i j hi hj => by rw [← he i j hi hj]; exact hc i j hi hj⟩, X, Y, fun i j hi hj => ?_⟩
  rw [← h2 i j hi hj]
  refine mm_congr (fun k hk => mm_congr (fun _ _ => rfl) (fun l hl => (he l k hl hk).symm)) (fun _ _ => rfl)
theorem Rk.le_rows {n m : Nat} {A : Mt} {r : Nat} (h : Rk n m A r) : r ≤ n := h.le_of (t := n) (C := idm) (R := A) (fun i j hi hj => (id_mm A hi).symm)
theorem Rk.le_places {n m : Nat} {A : Mt} {r : Nat} (h : Rk n m A r) : r ≤ m := h.le_of (t := m) (C := A) (R := idm) (fun i j hi hj => (mm_id A hj).symm)
def tr (A : Mt) : Mt := fun i j => A j i
theorem mm_tr (r : Nat) (A B : Mt) (i j : Nat) : mm r (tr B) (tr A) i j = mm r A B j i := sm_congr (fun k _ => Fd.mul_comm _ _)
theorem Rk.turn {n m : Nat} {A : Mt} {r : Nat} (h : Rk n m A r) : Rk m n (tr A) r := by
  obtain ⟨⟨C, R, hc⟩, X, Y, h2⟩ := h
  refine ⟨⟨tr R, tr C, fun i j hi hj => by rw [mm_tr]; exact hc j i hj hi⟩, tr Y, tr X, fun i j hi hj => ?_⟩
  have e : mm n (mm m (tr Y) (tr A)) (tr X) i j = mm n X (mm m A Y) j i := by
    calc mm n (mm m (tr Y) (tr A)) (tr X) i j = mm n (tr (mm m A Y)) (tr X) i j := mm_congr (fun k _ => mm_tr m A Y i k) (fun _ _ => rfl)
      _ = mm n X (mm m A Y) j i := mm_tr n X (mm m A Y) i j
  rw [e, ← mm_assoc, h2 j i hj hi]
  unfold idm
  by_cases h : i = j
  · subst h; rfl
  · rw [if_neg h, if_neg (fun e => h e.symm)]
theorem Rk.mul_left {n m l : Nat} {A B : Mt} {r x : Nat} (h : Rk n m A r) (hx : Rk n l (mm m A B) x) : x ≤ r := by
  obtain ⟨C, R, hc⟩ := h.1
  refine hx.le_of (t := r) (C := C) (R := mm m R B) (fun i j hi hj => ?_)
  rw [← mm_assoc]
  exact mm_congr (fun k hk => hc i k hi hk) (fun _ _ => rfl)
theorem Rk.mul_right {n m l : Nat} {A B : Mt} {r x : Nat} (h : Rk m l B r) (hx : Rk n l (mm m A B) x) : x ≤ r := by
  obtain ⟨C, R, hc⟩ := h.1
  refine hx.le_of (t := r) (C := mm m A C) (R := R) (fun i j hi hj => ?_)
  rw [mm_assoc]
  exact mm_congr (fun _ _ => rfl) (fun k hk => hc k j hk hj)
theorem Rk.id (n : Nat) : Rk n n idm n := ⟨⟨idm, idm, fun i j hi hj => (id_mm idm hi).symm⟩, idm, idm, fun i j hi hj => by rw [mm_id _ hj, id_mm _ hi]⟩
/-- Fewer than all: some sum of the columns is none. -/
theorem Rk.kernel {n m : Nat} {A : Mt} {r : Nat} (h : Rk n m A r) (hr : r < m) : ∃ v : Nat → Fd, (∃ j, j < m ∧ v j ≠ 0) ∧ ∀ i, i < n → sm m (fun j => A i j * v j) = 0 := by
  obtain ⟨⟨C, R, hc⟩, _⟩ := h
  obtain ⟨v, hv, h0⟩ := depend r m (tr R) hr
  refine ⟨v, hv, fun i hi => ?_⟩
  have e : sm m (fun j => A i j * v j) = mm m (mm r C R) (fun k _ => v k) i 0 := sm_congr (fun j hj => by rw [hc i j hi hj])
  rw [e, mm_assoc]
  exact sm_zero (fun k hk => by
    have : mm m R (fun k _ => v k) k 0 = 0 := by
      rw [← h0 k hk]
      exact sm_congr (fun j _ => Fd.mul_comm _ _)
    rw [this, Fd.mul_zero])
end Go.Proofs.Ytibilabhokkhmaa
