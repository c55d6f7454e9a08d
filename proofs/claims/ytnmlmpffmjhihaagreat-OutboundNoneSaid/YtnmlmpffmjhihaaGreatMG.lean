/-
  Merged: The field of bytes as a type of its own; finite sums, tables as functions; more vectors than places depend on each other. Plain. | Tables of bytes made plain, as linear algebra: the rank is the rank; an inverse undoes from both sides. Plain. | What the laws of layer 3 say, of tables as they are reckoned. Plain. | Any unlike rows of the document's table have an inverse. Plain. | More shards than needed (chapter 5): plain: what is decoded; it is the data that the shards were made of.
-/
import Derived.Test.YtnmlmpffmjhihaaGreatMB
import Derived.Test.YtnmlmpffmjhihaaGreatME
import Derived.Test.YtnmlmpffmjhihaaGreatMF
import Derived.Test.YtnmlmpffmjhihaaGreatMC
namespace Go.Proofs.YtnmlmpffmjhihaaGreat
set_option linter.unusedVariables false
/-- The program's product is linear in its second number. -/
theorem mulbit_xor (a b c : Nat) : a * ((b ^^^ c) % 2) = (a * (b % 2)) ^^^ (a * (c % 2)) := by
  have hx : (b ^^^ c) % 2 = (b % 2) ^^^ (c % 2) := by
    have := Nat.xor_mod_two_pow (a := b) (b := c) (n := 1)
    simpa using this
  rw [hx]
  rcases Nat.mod_two_eq_zero_or_one b with h | h <;> rcases Nat.mod_two_eq_zero_or_one c with h' | h' <;> simp [h, h']
theorem div2_xor (b c : Nat) : (b ^^^ c) / 2 = (b / 2) ^^^ (c / 2) := by
  have := Nat.shiftRight_xor_distrib (a := b) (b := c) (i := 1)
  simpa [Nat.shiftRight_succ] using this
theorem xor4 (p q x y : Nat) : (p ^^^ q) ^^^ (x ^^^ y) = (p ^^^ x) ^^^ (q ^^^ y) := by
  rw [Nat.xor_assoc, Nat.xor_assoc, ← Nat.xor_assoc q x y, Nat.xor_comm q x, Nat.xor_assoc x q y]
theorem mulGo_xor : ∀ n p q a b c, mulGo n (p ^^^ q) a (b ^^^ c) = mulGo n p a b ^^^ mulGo n q a c
  | 0, _, _, _, _, _ => rfl
  | n + 1, p, q, a, b, c => by
    unfold mulGo
    rw [mulbit_xor, div2_xor, xor4]
    exact mulGo_xor n _ _ _ _ _
theorem gm_xor_right (a b c : Nat) (ha : a < 256) (hb : b < 256) (hc : c < 256) : gm a (b ^^^ c) = gm a b ^^^ gm a c := by
  rw [← gmul_gm a _ ha (Nat.xor_lt_two_pow (n := 8) hb hc), ← gmul_gm a b ha hb, ← gmul_gm a c ha hc]
  unfold gmul
  have := mulGo_xor 8 0 0 a b c
  rwa [Nat.xor_self] at this
/-- A byte of the field. -/
structure Fd where
  v : Nat
  h : v < 256
theorem Fd.eq {a b : Fd} (h : a.v = b.v) : a = b := by
  cases a; cases b; cases h; rfl
instance : Add Fd := ⟨fun a b => ⟨a.v ^^^ b.v, Nat.xor_lt_two_pow (n := 8) a.h b.h⟩⟩
instance : Mul Fd := ⟨fun a b => ⟨gm a.v b.v, gm_lt _ _⟩⟩
instance : OfNat Fd 0 := ⟨⟨0, by decide⟩⟩
instance : OfNat Fd 1 := ⟨⟨1, by decide⟩⟩
instance : DecidableEq Fd := fun a b => if h : a.v = b.v then isTrue (Fd.eq h) else isFalse (fun e => h (by rw [e]))
theorem Fd.add_v (a b : Fd) : (a + b).v = a.v ^^^ b.v := rfl
theorem Fd.mul_v (a b : Fd) : (a * b).v = gm a.v b.v := rfl
theorem Fd.add_comm (a b : Fd) : a + b = b + a := Fd.eq (Nat.xor_comm _ _)
theorem Fd.add_assoc (a b c : Fd) : a + b + c = a + (b + c) := Fd.eq (Nat.xor_assoc _ _ _)
theorem Fd.zero_add (a : Fd) : 0 + a = a := Fd.eq (Nat.zero_xor _)
theorem Fd.add_zero (a : Fd) : a + 0 = a := Fd.eq (Nat.xor_zero _)
theorem Fd.add_self (a : Fd) : a + a = 0 := Fd.eq (Nat.xor_self _)
theorem Fd.mul_comm (a b : Fd) : a * b = b * a := Fd.eq (gm_comm _ _)
theorem Fd.mul_assoc (a b c : Fd) : a * b * c = a * (b * c) := Fd.eq (gm_assoc _ _ _)
theorem Fd.one_mul (a : Fd) : 1 * a = a := Fd.eq (gm_one_left a.v a.h)
theorem Fd.mul_one (a : Fd) : a * 1 = a := Fd.eq (gm_one_right a.v a.h)
theorem Fd.zero_mul (a : Fd) : 0 * a = 0 := Fd.eq (gm_zero_left a.v)
theorem Fd.mul_zero (a : Fd) : a * 0 = 0 := Fd.eq (gm_zero_right a.v)
theorem Fd.mul_add (a b c : Fd) : a * (b + c) = a * b + a * c := Fd.eq (gm_xor_right _ _ _ a.h b.h c.h)
theorem Fd.add_mul (a b c : Fd) : (a + b) * c = a * c + b * c := by rw [Fd.mul_comm, Fd.mul_add, Fd.mul_comm c a, Fd.mul_comm c b]
instance : Std.Associative (α := Fd) (· + ·) := ⟨Fd.add_assoc⟩
instance : Std.Commutative (α := Fd) (· + ·) := ⟨Fd.add_comm⟩
instance : Std.Associative (α := Fd) (· * ·) := ⟨Fd.mul_assoc⟩
instance : Std.Commutative (α := Fd) (· * ·) := ⟨Fd.mul_comm⟩
theorem Fd.add_cancel {a b : Fd} (h : a + b = 0) : a = b := by
  have : a + b + b = b := by rw [h, Fd.zero_add]
  rwa [Fd.add_assoc, Fd.add_self, Fd.add_zero] at this
theorem Fd.add_left {a b c : Fd} (h : a + b = a + c) : b = c := by
  have : a + (a + b) = a + (a + c) := by rw [h]
  rwa [← Fd.add_assoc, ← Fd.add_assoc, Fd.add_self, Fd.zero_add, Fd.zero_add] at this
def Fd.inv (a : Fd) : Fd := ⟨gi a.v, expT_lt _⟩
theorem Fd.pos {a : Fd} (h : a ≠ 0) : 0 < a.v := by
  rcases Nat.eq_zero_or_pos a.v with e | e
  · exact absurd (Fd.eq (b := 0) e) h
  · exact e
theorem Fd.mul_inv {a : Fd} (h : a ≠ 0) : a * a.inv = 1 := Fd.eq (gi_facts a.v (Fd.pos h) a.h).2.2
theorem Fd.inv_mul {a : Fd} (h : a ≠ 0) : a.inv * a = 1 := by rw [Fd.mul_comm, Fd.mul_inv h]
theorem Fd.one_ne : (1 : Fd) ≠ 0 := fun e => by
  have := congrArg Fd.v e
  exact absurd this (by decide)
theorem Fd.inv_ne {a : Fd} (h : a ≠ 0) : a.inv ≠ 0 := fun e => by
  have := Fd.mul_inv h
  rw [e, Fd.mul_zero] at this
  exact Fd.one_ne this.symm
theorem Fd.eq_zero_of_mul {a b : Fd} (h : a * b = 0) (ha : a ≠ 0) : b = 0 := by
  have : a.inv * (a * b) = 0 := by rw [h, Fd.mul_zero]
  rwa [← Fd.mul_assoc, Fd.inv_mul ha, Fd.one_mul] at this
theorem Fd.mul_ne {a b : Fd} (ha : a ≠ 0) (hb : b ≠ 0) : a * b ≠ 0 := fun h => hb (Fd.eq_zero_of_mul h ha)

/-! Sums. -/
def sm : Nat → (Nat → Fd) → Fd
  | 0, _ => 0
  | n + 1, f => sm n f + f n
theorem sm_congr : ∀ {n : Nat} {f g : Nat → Fd}, (∀ i, i < n → f i = g i) → sm n f = sm n g
  | 0, _, _, _ => rfl
  | n + 1, f, g, h => by
    show sm n f + f n = sm n g + g n
    rw [sm_congr (fun i hi => h i (by omega)), h n (by omega)]
theorem sm_zero : ∀ {n : Nat} {f : Nat → Fd}, (∀ i, i < n → f i = 0) → sm n f = 0
  | 0, _, _ => rfl
  | n + 1, f, h => by
    show sm n f + f n = 0
    rw [sm_zero (fun i hi => h i (by omega)), h n (by omega), Fd.add_zero]
theorem sm_add : ∀ (n : Nat) (f g : Nat → Fd), sm n (fun i => f i + g i) = sm n f + sm n g
  | 0, _, _ => (Fd.add_zero 0).symm
  | n + 1, f, g => by
    show sm n (fun i => f i + g i) + (f n + g n) = (sm n f + f n) + (sm n g + g n)
    rw [sm_add n f g]
    ac_rfl
theorem sm_mul : ∀ (n : Nat) (c : Fd) (f : Nat → Fd), c * sm n f = sm n (fun i => c * f i)
  | 0, c, _ => Fd.mul_zero c
  | n + 1, c, f => by
    show c * (sm n f + f n) = sm n (fun i => c * f i) + c * f n
    rw [Fd.mul_add, sm_mul n c f]
theorem sm_mulr (n : Nat) (c : Fd) (f : Nat → Fd) : sm n f * c = sm n (fun i => f i * c) := by
  rw [Fd.mul_comm, sm_mul]
  exact sm_congr (fun i _ => Fd.mul_comm _ _)
theorem sm_swap : ∀ (n m : Nat) (f : Nat → Nat → Fd), sm n (fun i => sm m (fun j => f i j)) = sm m (fun j => sm n (fun i => f i j))
  | 0, m, f => (sm_zero (fun _ _ => rfl)).symm
  | n + 1, m, f => by
    show sm n (fun i => sm m (fun j => f i j)) + sm m (fun j => f n j) = sm m (fun j => sm n (fun i => f i j) + f n j)
    rw [sm_swap n m f, sm_add]
theorem sm_one : ∀ {n k : Nat} {f : Nat → Fd}, k < n → (∀ i, i < n → i ≠ k → f i = 0) → sm n f = f k
  | 0, k, _, h, _ => absurd h (Nat.not_lt_zero _)
  | n + 1, k, f, h, hz => by
    show sm n f + f n = f k
    by_cases e : k = n
    · subst e
      rw [sm_zero (fun i hi => hz i (by omega) (by omega)), Fd.zero_add]
    · rw [sm_one (k := k) (by omega) (fun i hi hk => hz i (by omega) hk), hz n (by omega) (by omega), Fd.add_zero]
/-- All but one. -/
def skp (p i : Nat) : Nat := if i < p then i else i + 1
theorem skp_lt {p i n : Nat} (h : i < n) : skp p i < n + 1 := by unfold skp; split <;> omega
theorem skp_ne (p i : Nat) : skp p i ≠ p := by unfold skp; split <;> omega
theorem skp_of {p j : Nat} (h : j ≠ p) : ∃ i, skp p i = j ∧ ∀ n, j < n + 1 → p < n + 1 → i < n := by
  by_cases e : j < p
  · exact ⟨j, by unfold skp; rw [if_pos e], fun n h1 h2 => by omega⟩
  · exact ⟨j - 1, by unfold skp; rw [if_neg (by omega)]; omega, fun n h1 h2 => by omega⟩
theorem sm_skip : ∀ (n p : Nat) (f : Nat → Fd), p < n + 1 → sm (n + 1) f = sm n (fun i => f (skp p i)) + f p
  | 0, p, f, h => by
    obtain rfl : p = 0 := by omega
    rfl
  | n + 1, p, f, h => by
    show sm (n + 1) f + f (n + 1) = _
    by_cases e : p = n + 1
    · subst e
      congr 1
      exact sm_congr (fun i hi => by unfold skp; rw [if_pos hi])
    · rw [sm_skip n p f (by omega)]
      show _ = (sm n (fun i => f (skp p i)) + f (skp p n)) + f p
      rw [show skp p n = n + 1 by unfold skp; rw [if_neg (by omega)]]
      ac_rfl

/-! Tables. -/
abbrev Mt := Nat → Nat → Fd
def idm : Mt := fun i j => if i = j then 1 else 0
def mm (r : Nat) (A B : Mt) : Mt := fun i j => sm r (fun k => A i k * B k j)
theorem mm_assoc (r s : Nat) (A B C : Mt) (i j : Nat) : mm s (mm r A B) C i j = mm r A (mm s B C) i j := by
  unfold mm
  have h1 : ∀ k, sm r (fun l => A i l * B l k) * C k j = sm r (fun l => A i l * B l k * C k j) := fun k => sm_mulr _ _ _
  have h2 : ∀ l, A i l * sm s (fun k => B l k * C k j) = sm s (fun k => A i l * B l k * C k j) := fun l => by
    rw [sm_mul]
    exact sm_congr (fun k _ => (Fd.mul_assoc _ _ _).symm)
  simp only [h1, h2]
  exact sm_swap _ _ _
theorem mm_congr {r : Nat} {A A' B B' : Mt} {i j : Nat} (h1 : ∀ k, k < r → A i k = A' i k) (h2 : ∀ k, k < r → B k j = B' k j) : mm r A B i j = mm r A' B' i j :=
  sm_congr (fun k hk => by rw [h1 k hk, h2 k hk])
theorem mm_id {n : Nat} (A : Mt) {i j : Nat} (h : j < n) : mm n A idm i j = A i j := by
  unfold mm
  rw [sm_one h (fun k _ hk => by unfold idm; rw [if_neg hk, Fd.mul_zero])]
  unfold idm
  rw [if_pos rfl, Fd.mul_one]
theorem id_mm {n : Nat} (A : Mt) {i j : Nat} (h : i < n) : mm n idm A i j = A i j := by
  unfold mm
  rw [sm_one h (fun k _ hk => by unfold idm; rw [if_neg (fun e => hk e.symm), Fd.zero_mul])]
  unfold idm
  rw [if_pos rfl, Fd.one_mul]
/-- More vectors than places: some sum of them is none. -/
theorem depend : ∀ (r s : Nat) (P : Mt), r < s → ∃ v : Nat → Fd, (∃ i, i < s ∧ v i ≠ 0) ∧ ∀ j, j < r → sm s (fun i => v i * P i j) = 0
  | 0, s, P, h => ⟨fun _ => 1, ⟨0, h, Fd.one_ne⟩, fun j hj => absurd hj (Nat.not_lt_zero _)⟩
  | r + 1, s, P, h => by
    by_cases hz : ∀ i, i < s → P i r = 0
    · obtain ⟨v, hv, h0⟩ := depend r s P (by omega)
      refine ⟨v, hv, fun j hj => ?_⟩
      by_cases e : j = r
      · subst e
        exact sm_zero (fun i hi => by rw [hz i hi, Fd.mul_zero])
      · exact h0 j (by omega)
    · obtain ⟨p, hp, hne⟩ : ∃ p, p < s ∧ P p r ≠ 0 := Classical.byContradiction fun hn => hz fun i hi => Classical.byContradiction fun hx => hn ⟨i, hi, hx⟩
      obtain ⟨n, rfl⟩ : ∃ n, s = n + 1 := ⟨s - 1, by omega⟩
      obtain ⟨v, ⟨i0, hi0, hv0⟩, h0⟩ := depend r n (fun i j => P (skp p i) j + P (skp p i) r * (P p r).inv * P p j) (by omega)
      let c : Nat → Fd := fun i => P (skp p i) r * (P p r).inv
      let u : Nat → Fd := fun k => if k = p then sm n (fun i => v i * c i) else if k < p then v k else v (k - 1)
      have hus : ∀ i, u (skp p i) = v i := fun i => by
        show (if skp p i = p then _ else _) = _
        rw [if_neg (skp_ne p i)]
        unfold skp
        by_cases e : i < p
        · simp [e]
        · simp [e, show ¬ i + 1 < p by omega]
      have hup : u p = sm n (fun i => v i * c i) := if_pos rfl
      refine ⟨u, ⟨skp p i0, skp_lt hi0, by rw [hus]; exact hv0⟩, fun j hj => ?_⟩
      rw [sm_skip n p _ hp]
      simp only [hus, hup]
      rw [sm_mulr, ← sm_add]
      by_cases e : j = r
      · subst e
        refine sm_zero (fun i hi => ?_)
        show v i * P (skp p i) j + v i * (P (skp p i) j * (P p j).inv) * P p j = 0
        rw [Fd.mul_assoc (v i), Fd.mul_assoc (P (skp p i) j), Fd.inv_mul hne, Fd.mul_one, Fd.add_self]
      · have := h0 j (by omega)
        rw [← this]
        refine sm_congr (fun i hi => ?_)
        show v i * P (skp p i) j + v i * (P (skp p i) r * (P p r).inv) * P p j = v i * (P (skp p i) j + P (skp p i) r * (P p r).inv * P p j)
        rw [Fd.mul_add, Fd.mul_assoc (v i)]
theorem id_le {s r : Nat} {P Q : Mt} (h : ∀ i j, i < s → j < s → mm r P Q i j = idm i j) : s ≤ r := by
  rcases Nat.lt_or_ge r s with hl | hl
  · exfalso
    obtain ⟨v, ⟨i, hi, hv⟩, h0⟩ := depend r s P hl
    apply hv
    have h1 : mm s (fun _ k => v k) idm 0 i = v i := mm_id _ hi
    have h2 : mm s (fun _ k => v k) idm 0 i = mm s (fun _ k => v k) (mm r P Q) 0 i := mm_congr (fun _ _ => rfl) (fun k hk => (h k i hk hi).symm)
    rw [← h1, h2, ← mm_assoc]
    exact sm_zero (fun k hk => by
      have : mm s (fun _ k => v k) P 0 k = 0 := h0 k hk
      rw [this, Fd.zero_mul])
  · exact hl
/-- A table of n rows of m places has rank r. -/
def Rk (n m : Nat) (A : Mt) (r : Nat) : Prop := (∃ C R : Mt, ∀ i j, i < n → j < m → A i j = mm r C R i j) ∧ (∃ X Y : Mt, ∀ i j, i < r → j < r → mm m (mm n X A) Y i j = idm i j)
/-- What goes through t has no greater rank. -/
theorem Rk.le_of {n m : Nat} {A : Mt} {r t : Nat} {C R : Mt} (h : Rk n m A r) (hc : ∀ i j, i < n → j < m → A i j = mm t C R i j) : r ≤ t := by
  obtain ⟨_, X, Y, h2⟩ := h
  refine id_le (P := mm n X C) (Q := mm m R Y) (fun i j hi hj => ?_)
  rw [← h2 i j hi hj, ← mm_assoc]
  refine mm_congr (fun k hk => ?_) (fun _ _ => rfl)
  rw [mm_assoc]
  exact mm_congr (fun _ _ => rfl) (fun l hl => (hc l k hl hk).symm)
theorem Rk.unique {n m : Nat} {A : Mt} {r t : Nat} (h : Rk n m A r) (h' : Rk n m A t) : r = t := by
  obtain ⟨C, R, hc⟩ := h.1
  obtain ⟨C', R', hc'⟩ := h'.1
  exact Nat.le_antisymm (h.le_of hc') (h'.le_of hc)
theorem Rk.congr {n m : Nat} {A A' : Mt} {r : Nat} (h : Rk n m A r) (he : ∀ i j, i < n → j < m → A i j = A' i j) : Rk n m A' r := by
  obtain ⟨⟨C, R, hc⟩, X, Y, h2⟩ := h
  refine ⟨⟨C, R, fun i j hi hj => by rw [← he i j hi hj]; exact hc i j hi hj⟩, X, Y, fun i j hi hj => ?_⟩
  rw [← h2 i j hi hj]
  refine mm_congr (fun k hk => mm_congr (fun _ _ => rfl) (fun l hl => (he l k hl hk).symm)) (fun _ _ => rfl)
theorem Rk.le_rows {n m : Nat} {A : Mt} {r : Nat} (h : Rk n m A r) : r ≤ n := h.le_of (t := n) (C := idm) (R := A) (fun i j hi hj => (id_mm A hi).symm)
theorem Rk.le_places {n m : Nat} {A : Mt} {r : Nat} (h : Rk n m A r) : r ≤ m := h.le_of (t := m) (C := A) (R := idm) (fun i j hi hj => (mm_id A hj).symm)
def tr (A : Mt) : Mt := fun i j => A j i
theorem mm_tr (r : Nat) (A B : Mt) (i j : Nat) : mm r (tr B) (tr A) i j = mm r A B j i := sm_congr (fun k _ => Fd.mul_comm _ _)
theorem Rk.turn {n m : Nat} {A : Mt} {r : Nat} (h : Rk n m A r) : Rk m n (tr A) r := by
  obtain ⟨⟨C, R, hc⟩, X, Y, h2⟩ := h
  refine ⟨⟨tr R, tr C, fun i j hi hj => by rw [mm_tr]; exact hc j i hj hi⟩, tr Y, tr X, fun i j hi hj => ?_⟩
  have e : mm n (mm m (tr Y) (tr A)) (tr X) i j = mm n X (mm m A Y) j i := by
    calc mm n (mm m (tr Y) (tr A)) (tr X) i j = mm n (tr (mm m A Y)) (tr X) i j := mm_congr (fun k _ => mm_tr m A Y i k) (fun _ _ => rfl)
      _ = mm n X (mm m A Y) j i := mm_tr n X (mm m A Y) i j
  rw [e, ← mm_assoc, h2 j i hj hi]
  unfold idm
  by_cases h : i = j
  · subst h; rfl
  · rw [if_neg h, if_neg (fun e => h e.symm)]
theorem Rk.mul_left {n m l : Nat} {A B : Mt} {r x : Nat} (h : Rk n m A r) (hx : Rk n l (mm m A B) x) : x ≤ r := by
  obtain ⟨C, R, hc⟩ := h.1
  refine hx.le_of (t := r) (C := C) (R := mm m R B) (fun i j hi hj => ?_)
  rw [← mm_assoc]
  exact mm_congr (fun k hk => hc i k hi hk) (fun _ _ => rfl)
theorem Rk.mul_right {n m l : Nat} {A B : Mt} {r x : Nat} (h : Rk m l B r) (hx : Rk n l (mm m A B) x) : x ≤ r := by
  obtain ⟨C, R, hc⟩ := h.1
  refine hx.le_of (t := r) (C := mm m A C) (R := R) (fun i j hi hj => ?_)
  rw [mm_assoc]
  exact mm_congr (fun _ _ => rfl) (fun k hk => hc k j hk hj)
theorem Rk.id (n : Nat) : Rk n n idm n := ⟨⟨idm, idm, fun i j hi hj => (id_mm idm hi).symm⟩, idm, idm, fun i j hi hj => by rw [mm_id _ hj, id_mm _ hi]⟩
/-- Fewer than all: some sum of the columns is none. -/
theorem Rk.kernel {n m : Nat} {A : Mt} {r : Nat} (h : Rk n m A r) (hr : r < m) : ∃ v : Nat → Fd, (∃ j, j < m ∧ v j ≠ 0) ∧ ∀ i, i < n → sm m (fun j => A i j * v j) = 0 := by
  obtain ⟨⟨C, R, hc⟩, _⟩ := h
  obtain ⟨v, hv, h0⟩ := depend r m (tr R) hr
  refine ⟨v, hv, fun i hi => ?_⟩
  have e : sm m (fun j => A i j * v j) = mm m (mm r C R) (fun k _ => v k) i 0 := sm_congr (fun j hj => by rw [hc i j hi hj])
  rw [e, mm_assoc]
  exact sm_zero (fun k hk => by
    have : mm m R (fun k _ => v k) k 0 = 0 := by
      rw [← h0 k hk]
      exact sm_congr (fun j _ => Fd.mul_comm _ _)
    rw [this, Fd.mul_zero])
end Go.Proofs.YtnmlmpffmjhihaaGreat
namespace Go.Proofs.YtnmlmpffmjhihaaGreat
set_option linter.unusedVariables false
def fd (x : Nat) : Fd := ⟨x % 256, Nat.mod_lt _ (by decide)⟩
theorem fd_v {x : Nat} (h : x < 256) : (fd x).v = x := Nat.mod_eq_of_lt h
theorem fd_inj {x y : Nat} (hx : x < 256) (hy : y < 256) (h : fd x = fd y) : x = y := by
  have := congrArg Fd.v h
  rwa [fd_v hx, fd_v hy] at this
theorem fd_xor (x y : Nat) : fd (x ^^^ y) = fd x + fd y := Fd.eq (Nat.xor_mod_two_pow (a := x) (b := y) (n := 8))
theorem fd_gm (x y : Nat) (hx : x < 256) (hy : y < 256) : fd (gm x y) = fd x * fd y := by
  apply Fd.eq
  rw [Fd.mul_v, fd_v hx, fd_v hy, fd_v (gm_lt _ _)]
theorem fd_zero : fd 0 = 0 := rfl
theorem fd_one : fd 1 = 1 := rfl
def ef (M : Tab) : Mt := fun i j => fd (entM M i j)
def AllB (M : Tab) : Prop := ∀ i (h : i < M.length), ∀ x ∈ M[i], x < 256
/-- n rows of x bytes. -/
structure Gd (n x : Nat) (M : Tab) : Prop where
  len : M.length = n
  wide : Wide M x
  all : AllB M
theorem AllB.set {M : Tab} {i : Nat} {r : List Nat} (h : AllB M) (hr : ∀ x ∈ r, x < 256) : AllB (M.set i r) := fun j hj => by
  by_cases e : i = j
  · subst e; simpa using hr
  · rw [List.getElem_set_ne e]; exact h j (by simpa using hj)
theorem Gd.row {n x : Nat} {M : Tab} (h : Gd n x M) {i : Nat} (hi : i < n) : (M.getD i []).length = x ∧ ∀ y ∈ M.getD i [], y < 256 := by
  have hi' : i < M.length := by rw [h.len]; exact hi
  rw [getD_get M i [] hi']
  exact ⟨h.wide i hi', h.all i hi'⟩
theorem Gd.set {n x : Nat} {M : Tab} (h : Gd n x M) (i : Nat) {r : List Nat} (hl : r.length = x) (hr : ∀ y ∈ r, y < 256) : Gd n x (M.set i r) :=
  ⟨by rw [List.length_set, h.len], h.wide.set hl, h.all.set hr⟩
theorem Gd.lt {n x : Nat} {M : Tab} (h : Gd n x M) (i j : Nat) : entM M i j < 256 := entM_lt h.all i j
theorem Gd.far {n x : Nat} {M : Tab} (h : Gd n x M) {i j : Nat} (hi : i < n) (hj : x ≤ j) : entM M i j = 0 := by
  unfold entM
  rw [List.getD_eq_getElem?_getD, List.getElem?_eq_none (by rw [(h.row hi).1]; exact hj)]
  rfl
theorem Gd.ext {n x : Nat} {M N : Tab} (h : Gd n x M) (h' : Gd n x N) (he : ∀ i j, i < n → j < x → ef M i j = ef N i j) : M = N := by
  apply List.ext_getElem (by rw [h.len, h'.len])
  intro i hi hi'
  have hin : i < n := by rw [← h.len]; exact hi
  apply List.ext_getElem (by rw [h.wide i hi, h'.wide i hi'])
  intro j hj hj'
  have hjx : j < x := by rw [← h.wide i hi]; exact hj
  have := fd_inj (h.lt i j) (h'.lt i j) (he i j hin hjx)
  rwa [entM_get M i j hi hj, entM_get N i j hi' hj'] at this
theorem ent_set (M : Tab) (i : Nat) (r : List Nat) (k j : Nat) (hi : i < M.length) : entM (M.set i r) k j = if k = i then r.getD j 0 else entM M k j := by
  unfold entM
  by_cases e : k = i
  · subst e
    rw [if_pos rfl, getD_get _ k [] (by simpa using hi)]
    simp
  · rw [if_neg e]
    congr 1
    simp only [List.getD_eq_getElem?_getD]
    rw [List.getElem?_set_ne (fun h => e h.symm)]
theorem getD_lt {r : List Nat} (h : ∀ x ∈ r, x < 256) (j : Nat) : r.getD j 0 < 256 := by
  by_cases e : j < r.length
  · rw [getD_get r j 0 e]; exact h _ (by simp)
  · rw [List.getD_eq_getElem?_getD, List.getElem?_eq_none (by omega)]; decide
theorem scaleL_getD (c : Nat) (v : List Nat) (j : Nat) : (scaleL c v).getD j 0 = gm c (v.getD j 0) := by
  by_cases e : j < v.length
  · rw [getD_get _ j 0 (by rw [scaleL_length]; exact e), getD_get v j 0 e]
    simp [scaleL]
  · rw [List.getD_eq_getElem?_getD, List.getD_eq_getElem?_getD, List.getElem?_eq_none (by rw [scaleL_length]; omega), List.getElem?_eq_none (by omega)]
    exact (gm_zero_right c).symm
theorem addL_getD (a b : List Nat) (h : a.length = b.length) (j : Nat) : (addL a b).getD j 0 = a.getD j 0 ^^^ b.getD j 0 := by
  by_cases e : j < a.length
  · rw [getD_get _ j 0 (by rw [addL_length a b h]; exact e), getD_get a j 0 e, getD_get b j 0 (by omega)]
    simp [addL]
  · simp only [List.getD_eq_getElem?_getD]
    rw [List.getElem?_eq_none (by rw [addL_length a b h]; omega), List.getElem?_eq_none (by omega), List.getElem?_eq_none (by omega)]
    rfl
/-- What two rows are when they change places. -/
def sw (a i k : Nat) : Nat := if k = a then i else if k = i then a else k
theorem sw_lt {a i k n : Nat} (ha : a < n) (hi : i < n) (hk : k < n) : sw a i k < n := by
  unfold sw
  split
  · exact hi
  · split <;> omega
theorem sw_sw (a i k : Nat) : sw a i (sw a i k) = k := by
  unfold sw
  by_cases h1 : k = a
  · subst h1
    by_cases h2 : i = k <;> simp [h2]
  · by_cases h2 : k = i
    · subst h2; simp [h1]
    · simp [h1, h2]
section
variable {n x : Nat} {M : Tab}
theorem Gd.swap (h : Gd n x M) {a i : Nat} (ha : a < n) (hi : i < n) : Gd n x (swapL M a i) := by
  have ra := h.row ha
  have ri := h.row hi
  exact (h.set a ri.1 ri.2).set i ra.1 ra.2
theorem ef_swap (h : Gd n x M) {a i : Nat} (ha : a < n) (hi : i < n) (k j : Nat) : ef (swapL M a i) k j = ef M (sw a i k) j := by
  have hl := h.len
  unfold ef swapL
  rw [ent_set _ _ _ _ _ (by rw [List.length_set]; omega), ent_set _ _ _ _ _ (by omega)]
  unfold sw
  by_cases h1 : k = i
  · subst h1
    by_cases h2 : k = a
    · subst h2; simp only [if_true]; rfl
    · rw [if_pos rfl, if_neg h2, if_pos rfl]; rfl
  · rw [if_neg h1]
    by_cases h2 : k = a
    · rw [if_pos h2, if_pos h2]; rfl
    · rw [if_neg h2, if_neg h2, if_neg h1]
theorem Gd.sc (h : Gd n x M) {c row : Nat} (hr : row < n) : Gd n x (scR c row M) :=
  h.set row (by rw [scaleL_length]; exact (h.row hr).1) (scaleL_lt c _)
theorem ef_sc (h : Gd n x M) {c row : Nat} (hc : c < 256) (hr : row < n) (k j : Nat) : ef (scR c row M) k j = if k = row then fd c * ef M row j else ef M k j := by
  have hl := h.len
  unfold ef scR
  rw [ent_set _ _ _ _ _ (by omega)]
  by_cases e : k = row
  · rw [if_pos e, if_pos e, scaleL_getD, fd_gm _ _ hc (getD_lt (h.row hr).2 j)]
    rfl
  · rw [if_neg e, if_neg e]
theorem Gd.ad (h : Gd n x M) {c i row : Nat} (hi : i < n) (hr : row < n) : Gd n x (addR M c i row) := by
  have r1 := h.row hi
  have r2 := h.row hr
  refine h.set i ?_ ?_
  · unfold mulAddL
    rw [addL_length _ _ (by rw [scaleL_length, r1.1, r2.1]), r1.1]
  · exact addL_lt _ _ r1.2 (scaleL_lt _ _)
theorem ef_ad (h : Gd n x M) {c i row : Nat} (hc : c < 256) (hi : i < n) (hr : row < n) (k j : Nat) : ef (addR M c i row) k j = if k = i then ef M i j + fd c * ef M row j else ef M k j := by
  have hl := h.len
  have r1 := h.row hi
  have r2 := h.row hr
  unfold ef addR mulAddL
  rw [ent_set _ _ _ _ _ (by omega)]
  by_cases e : k = i
  · rw [if_pos e, if_pos e, addL_getD _ _ (by rw [scaleL_length, r1.1, r2.1]), scaleL_getD, fd_xor, fd_gm _ _ hc (getD_lt r2.2 j)]
    rfl
  · rw [if_neg e, if_neg e]
end
/-! Row operations. -/
def RowEq (n : Nat) (A B A' B' : Mt) : Prop := ∃ E F : Mt, (∀ i j, i < n → j < n → mm n F E i j = idm i j) ∧ (∀ i j, i < n → A' i j = mm n E A i j) ∧ (∀ i j, i < n → B' i j = mm n E B i j)
theorem RowEq.refl (n : Nat) (A B : Mt) : RowEq n A B A B := ⟨idm, idm, fun i j hi hj => id_mm idm hi, fun i j hi => (id_mm A hi).symm, fun i j hi => (id_mm B hi).symm⟩
theorem RowEq.trans {n : Nat} {A B A' B' A'' B'' : Mt} (h : RowEq n A B A' B') (k : RowEq n A' B' A'' B'') : RowEq n A B A'' B'' := by
  obtain ⟨E1, F1, h1, h2, h3⟩ := h
  obtain ⟨E2, F2, k1, k2, k3⟩ := k
  refine ⟨mm n E2 E1, mm n F1 F2, fun i j hi hj => ?_, fun i j hi => ?_, fun i j hi => ?_⟩
  · rw [← h1 i j hi hj, mm_assoc]
    refine mm_congr (fun _ _ => rfl) (fun k hk => ?_)
    rw [← mm_assoc]
    calc mm n (mm n F2 E2) E1 k j = mm n idm E1 k j := mm_congr (fun l hl => k1 k l hk hl) (fun _ _ => rfl)
      _ = E1 k j := id_mm E1 hk
  · rw [k2 i j hi, mm_assoc]
    exact mm_congr (fun _ _ => rfl) (fun l hl => h2 l j hl)
  · rw [k3 i j hi, mm_assoc]
    exact mm_congr (fun _ _ => rfl) (fun l hl => h3 l j hl)
theorem RowEq.sw {n a i : Nat} (ha : a < n) (hi : i < n) {A B A' B' : Mt} (h1 : ∀ k j, A' k j = A (sw a i k) j) (h2 : ∀ k j, B' k j = B (sw a i k) j) : RowEq n A B A' B' := by
  refine ⟨fun k l => idm (Go.Proofs.YtnmlmpffmjhihaaGreat.sw a i k) l, fun k l => idm (Go.Proofs.YtnmlmpffmjhihaaGreat.sw a i k) l, fun k j hk hj => ?_, fun k j hk => ?_, fun k j hk => ?_⟩
  · rw [id_mm (i := Go.Proofs.YtnmlmpffmjhihaaGreat.sw a i k) (fun k l => idm (Go.Proofs.YtnmlmpffmjhihaaGreat.sw a i k) l) (sw_lt ha hi hk) |> (fun e => (show mm n (fun k l => idm (Go.Proofs.YtnmlmpffmjhihaaGreat.sw a i k) l) (fun k l => idm (Go.Proofs.YtnmlmpffmjhihaaGreat.sw a i k) l) k j = _ from e)), sw_sw]
  · rw [h1]; exact (id_mm A (sw_lt ha hi hk)).symm
  · rw [h2]; exact (id_mm B (sw_lt ha hi hk)).symm
theorem mm_sc {n row : Nat} {c : Fd} (A : Mt) {i j : Nat} (hi : i < n) : mm n (fun i k => (if i = row then c else 1) * idm i k) A i j = (if i = row then c else 1) * A i j := by
  unfold mm
  rw [sm_one hi (fun k _ hk => by
    show (if i = row then c else 1) * idm i k * A k j = 0
    rw [show idm i k = 0 from if_neg (fun e => hk e.symm), Fd.mul_zero, Fd.zero_mul])]
  show (if i = row then c else 1) * idm i i * A i j = _
  rw [show idm i i = 1 from if_pos rfl, Fd.mul_one]
theorem RowEq.sc {n row : Nat} {c : Fd} (hc : c ≠ 0) {A B A' B' : Mt} (h1 : ∀ k j, A' k j = if k = row then c * A row j else A k j) (h2 : ∀ k j, B' k j = if k = row then c * B row j else B k j) : RowEq n A B A' B' := by
  have hs : ∀ (A A' : Mt), (∀ k j, A' k j = if k = row then c * A row j else A k j) → ∀ i j, i < n → A' i j = mm n (fun i k => (if i = row then c else 1) * idm i k) A i j := fun A A' h i j hi => by
    rw [mm_sc A hi, h]
    by_cases e : i = row
    · subst e; rw [if_pos rfl, if_pos rfl]
    · rw [if_neg e, if_neg e, Fd.one_mul]
  refine ⟨fun i k => (if i = row then c else 1) * idm i k, fun i k => (if i = row then c.inv else 1) * idm i k, fun i j hi hj => ?_, hs A A' h1, hs B B' h2⟩
  rw [mm_sc _ hi]
  by_cases e : i = row
  · subst e; rw [if_pos rfl, if_pos rfl, ← Fd.mul_assoc, Fd.inv_mul hc, Fd.one_mul]
  · rw [if_neg e, if_neg e, Fd.one_mul, Fd.one_mul]
theorem mm_ad {n row a : Nat} {c : Fd} (A : Mt) {i j : Nat} (hi : i < n) (hr : row < n) : mm n (fun i k => idm i k + (if i = a then c else 0) * idm row k) A i j = A i j + (if i = a then c else 0) * A row j := by
  have e : mm n (fun i k => idm i k + (if i = a then c else 0) * idm row k) A i j = mm n idm A i j + (if i = a then c else 0) * mm n idm A row j := by
    unfold mm
    rw [sm_mul, ← sm_add]
    exact sm_congr (fun k _ => by rw [Fd.add_mul, Fd.mul_assoc])
  rw [e, id_mm A hi, id_mm A hr]
theorem RowEq.ad {n row a : Nat} {c : Fd} (hr : row < n) (hne : a ≠ row) {A B A' B' : Mt} (h1 : ∀ k j, A' k j = if k = a then A a j + c * A row j else A k j) (h2 : ∀ k j, B' k j = if k = a then B a j + c * B row j else B k j) : RowEq n A B A' B' := by
  have hs : ∀ (A A' : Mt), (∀ k j, A' k j = if k = a then A a j + c * A row j else A k j) → ∀ i j, i < n → A' i j = mm n (fun i k => idm i k + (if i = a then c else 0) * idm row k) A i j := fun A A' h i j hi => by
    rw [mm_ad A hi hr, h]
    by_cases e : i = a
    · subst e; rw [if_pos rfl, if_pos rfl]
    · rw [if_neg e, if_neg e, Fd.zero_mul, Fd.add_zero]
  refine ⟨fun i k => idm i k + (if i = a then c else 0) * idm row k, fun i k => idm i k + (if i = a then c else 0) * idm row k, fun i j hi hj => ?_, hs A A' h1, hs B B' h2⟩
  rw [mm_ad _ hi hr]
  show idm i j + (if i = a then c else 0) * idm row j + (if i = a then c else 0) * (idm row j + (if row = a then c else 0) * idm row j) = idm i j
  rw [show (if row = a then c else 0) = (0 : Fd) from if_neg (fun e => hne e.symm), Fd.zero_mul, Fd.add_zero, Fd.add_assoc, Fd.add_self, Fd.add_zero]
/-! Clearing. -/
/-- What the rows are once the first m are cleared. -/
def clr (row m : Nat) (P A : Mt) (p : Nat) : Mt := fun i j => if i = row ∨ m ≤ i then A i j else A i j + P i p * A row j
theorem clr_succ {row m : Nat} {P A : Mt} {p : Nat} (k j : Nat) : clr row (m + 1) P A p k j = if k = m ∧ m ≠ row then clr row m P A p m j + P m p * clr row m P A p row j else clr row m P A p k j := by
  unfold clr
  by_cases e : k = m
  · subst e
    by_cases e2 : k = row
    · subst e2; simp
    · rw [if_neg (show ¬ (k = row ∨ k + 1 ≤ k) by omega), if_pos (show k = k ∧ k ≠ row from ⟨rfl, e2⟩), if_pos (show k = row ∨ k ≤ k by omega), if_pos (show row = row ∨ k ≤ row from .inl rfl)]
  · rw [if_neg (show ¬ (k = m ∧ m ≠ row) from fun h => e h.1)]
    by_cases e2 : k = row ∨ m ≤ k
    · rw [if_pos e2, if_pos (show k = row ∨ m + 1 ≤ k by omega)]
    · rw [if_neg e2, if_neg (show ¬ (k = row ∨ m + 1 ≤ k) by omega)]
structure CInv (n x y row p m : Nat) (M O : Tab) (M' O' : Tab) : Prop where
  gm : Gd n x M'
  go : Gd n y O'
  rq : RowEq n (ef M) (ef O) (ef M') (ef O')
  em : ∀ k j, ef M' k j = clr row m (ef M) (ef M) p k j
  eo : ∀ k j, ef O' k j = clr row m (ef M) (ef O) p k j
theorem stepC_inv {n x y row p m : Nat} {M O : Tab} {S : Tab × Tab} (hr : row < n) (hm : m < n) (h : CInv n x y row p m M O S.1 S.2) : CInv n x y row p (m + 1) M O (stepC row p S m).1 (stepC row p S m).2 := by
  have hcl : ∀ j, ef S.1 m j = ef M m j := fun j => by
    rw [h.em]; unfold clr; rw [if_pos (.inr (Nat.le_refl _))]
  unfold stepC
  by_cases hc : m = row ∨ entM S.1 m p = 0
  · rw [if_pos hc]
    have hz : ∀ (A : Mt) k j, clr row (m + 1) (ef M) A p k j = clr row m (ef M) A p k j := fun A k j => by
      rw [clr_succ]
      split
      · rename_i hk
        obtain ⟨rfl, hk2⟩ := hk
        have h0 : entM S.1 k p = 0 := hc.resolve_left hk2
        have h1 : ef M k p = 0 := by rw [← hcl]; unfold ef; rw [h0]; rfl
        rw [h1, Fd.zero_mul, Fd.add_zero]
      · rfl
    exact ⟨h.gm, h.go, h.rq, fun k j => (h.em k j).trans (hz _ k j).symm, fun k j => (h.eo k j).trans (hz _ k j).symm⟩
  · rw [if_neg hc]
    have hne : m ≠ row := fun e => hc (.inl e)
    have hx := h.gm.lt m p
    have hP : fd (entM S.1 m p) = ef M m p := hcl p
    have e1 : ∀ k j, ef (addR S.1 (entM S.1 m p) m row) k j = if k = m then ef S.1 m j + ef M m p * ef S.1 row j else ef S.1 k j := fun k j => by rw [ef_ad h.gm hx hm hr, hP]
    have e2 : ∀ k j, ef (addR S.2 (entM S.1 m p) m row) k j = if k = m then ef S.2 m j + ef M m p * ef S.2 row j else ef S.2 k j := fun k j => by rw [ef_ad h.go hx hm hr, hP]
    refine ⟨h.gm.ad hm hr, h.go.ad hm hr, h.rq.trans (RowEq.ad hr hne e1 e2), fun k j => ?_, fun k j => ?_⟩
    · rw [clr_succ, e1, h.em, h.em, h.em]
      by_cases e : k = m
      · rw [if_pos e, if_pos ⟨e, hne⟩]
      · rw [if_neg e, if_neg (fun h => e h.1)]
    · rw [clr_succ, e2, h.eo, h.eo, h.eo]
      by_cases e : k = m
      · rw [if_pos e, if_pos ⟨e, hne⟩]
      · rw [if_neg e, if_neg (fun h => e h.1)]
/-- The row in question, its place made 1. -/
theorem clear_inv {n x y row p : Nat} {M O : Tab} (hM : Gd n x M) (hO : Gd n y O) (hr : row < n) (hne : entM M row p ≠ 0) :
    Gd n x (clearL row p M O).1 ∧ Gd n y (clearL row p M O).2 ∧ RowEq n (ef M) (ef O) (ef (clearL row p M O).1) (ef (clearL row p M O).2) ∧
    ∀ k j, ef (clearL row p M O).1 k j = if k = row then (ef M row p).inv * ef M row j else ef M k j + ef M k p * ((ef M row p).inv * ef M row j) := by
  have hx := hM.lt row p
  have hpos : 0 < entM M row p := by omega
  have hg := gi_facts (entM M row p) hpos hx
  have hf : fd (gi (entM M row p)) = (ef M row p).inv := by
    apply Fd.eq
    rw [fd_v hg.2.1]
    show _ = gi (fd (entM M row p)).v
    rw [fd_v hx]
  have hfp : ef M row p ≠ 0 := fun e => hne (fd_inj hx (by decide) e)
  have hc : fd (gi (entM M row p)) ≠ 0 := by rw [hf]; exact Fd.inv_ne hfp
  have g1 := hM.sc (c := gi (entM M row p)) hr
  have g2 := hO.sc (c := gi (entM M row p)) hr
  have e1 := ef_sc hM hg.2.1 hr
  have e2 := ef_sc hO hg.2.1 hr
  have rq := RowEq.sc (n := n) hc e1 e2
  have hall : ∀ m, m ≤ n → CInv n x y row p m (scR (gi (entM M row p)) row M) (scR (gi (entM M row p)) row O) (clearSo row p M O m).1 (clearSo row p M O m).2 := by
    intro m
    induction m with
    | zero =>
      intro _
      refine ⟨g1, g2, RowEq.refl _ _ _, fun k j => ?_, fun k j => ?_⟩
      · unfold clr; rw [if_pos (.inr (Nat.zero_le _))]; rfl
      · unfold clr; rw [if_pos (.inr (Nat.zero_le _))]; rfl
    | succ m ih =>
      intro h
      rw [clearSo_succ]
      exact stepC_inv hr (by omega) (ih (by omega))
  have hfin := hall n (Nat.le_refl _)
  unfold clearL
  rw [hM.len]
  refine ⟨hfin.gm, hfin.go, rq.trans hfin.rq, fun k j => ?_⟩
  rw [hfin.em]
  unfold clr
  by_cases e : k = row
  · rw [if_pos (.inl e), if_pos e, e1, if_pos e, hf]
  · rw [if_neg e]
    by_cases e2 : n ≤ k
    · have hz : ∀ j, ef M k j = 0 := fun j => by
        unfold ef entM
        rw [show M.getD k [] = [] by rw [List.getD_eq_getElem?_getD, List.getElem?_eq_none (by rw [hM.len]; exact e2)]; rfl]
        rfl
      rw [if_pos (.inr e2), e1, if_neg e, hz, hz, Fd.zero_mul, Fd.add_zero]
    · rw [if_neg (by omega), e1, if_neg e, e1, if_neg e, e1, if_pos rfl, hf]
/-! Plain tables. -/
structure Ech (n p a : Nat) (A : Mt) (piv : Nat → Nat) : Prop where
  lt : ∀ k, k < a → piv k < p
  up : ∀ k l, k < l → l < a → piv k < piv l
  at' : ∀ k i, k < a → i < n → A i (piv k) = idm i k
  none : ∀ i j, a ≤ i → i < n → j < p → A i j = 0
structure RInv (n x y p : Nat) (M O : Tab) (S : Nat × (Tab × Tab)) : Prop where
  le : S.1 ≤ n
  gm : Gd n x S.2.1
  go : Gd n y S.2.2
  rq : RowEq n (ef M) (ef O) (ef S.2.1) (ef S.2.2)
  ech : ∃ piv, Ech n p S.1 (ef S.2.1) piv
theorem pivN_none (M : Tab) (place : Nat) : ∀ k i, pivN M place k i = none → ∀ j, i ≤ j → j < i + k → entM M j place = 0
  | 0, i, _, j, h1, h2 => by omega
  | k + 1, i, h, j, h1, h2 => by
    by_cases hz : entM M i place = 0
    · rw [pivN_step M place k i hz] at h
      by_cases e : j = i
      · subst e; exact hz
      · exact pivN_none M place k (i + 1) h j (by omega) (by omega)
    · rw [pivN_hit M place k i hz] at h
      cases h
theorem stepP_rinv {n x y p : Nat} {M O : Tab} {S : Nat × (Tab × Tab)} (hp : p < x) (h : RInv n x y p M O S) : RInv n x y (p + 1) M O (stepP S p) := by
  obtain ⟨hle, hgm, hgo, hrq, piv, he⟩ := h
  have hl := hgm.len
  by_cases hf : S.1 = S.2.1.length
  · rw [stepP_full hf]
    exact ⟨hle, hgm, hgo, hrq, piv, fun k hk => Nat.lt_succ_of_lt (he.lt k hk), he.up, he.at', fun i j h1 h2 _ => by omega⟩
  · cases hpv : pivL S.2.1 S.1 p with
    | none =>
      rw [stepP_none hf p hpv]
      refine ⟨hle, hgm, hgo, hrq, piv, fun k hk => Nat.lt_succ_of_lt (he.lt k hk), he.up, he.at', fun i j h1 h2 h3 => ?_⟩
      by_cases e : j = p
      · subst e
        have := pivN_none S.2.1 j _ _ hpv i h1 (by omega)
        unfold ef
        rw [this]
        rfl
      · exact he.none i j h1 h2 (by omega)
    | some i =>
      rw [stepP_some hf p i hpv]
      obtain ⟨s1, s2, s3⟩ := pivL_spec hpv
      have ha : S.1 < n := by omega
      have hi : i < n := by omega
      have gm1 := hgm.swap ha hi
      have go1 := hgo.swap ha hi
      have rq1 := RowEq.sw ha hi (ef_swap hgm ha hi) (ef_swap hgo ha hi)
      have hne1 : entM (swapL S.2.1 S.1 i) S.1 p ≠ 0 := by
        rw [entM_swap _ _ _ _ (by omega) (by omega)]; exact s3
      obtain ⟨gm2, go2, rq2, e2⟩ := clear_inv gm1 go1 ha hne1
      have hE := ef_swap hgm ha hi
      have hfp : ef (swapL S.2.1 S.1 i) S.1 p ≠ 0 := fun e => hne1 (fd_inj (gm1.lt _ _) (by decide) e)
      -- the old places' columns, the old rows' noughts
      have c1 : ∀ k r, k < S.1 → r < n → ef (swapL S.2.1 S.1 i) r (piv k) = idm r k := fun k r hk hr => by
        rw [hE, he.at' k _ hk (sw_lt ha hi hr)]
        unfold idm sw
        by_cases q1 : r = S.1
        · rw [if_pos q1, if_neg (by omega), if_neg (by omega)]
        · rw [if_neg q1]
          by_cases q2 : r = i
          · rw [if_pos q2, if_neg (by omega), if_neg (by omega)]
          · rw [if_neg q2]
      have c2 : ∀ r j, S.1 ≤ r → r < n → j < p → ef (swapL S.2.1 S.1 i) r j = 0 := fun r j hr hrn hj => by
        rw [hE]
        refine he.none _ j ?_ (sw_lt ha hi hrn) hj
        unfold sw
        split
        · exact s1
        · split <;> omega
      refine ⟨by show S.1 + 1 ≤ n; omega, gm2, go2, hrq.trans (rq1.trans rq2), fun k => if k = S.1 then p else piv k, ?_, ?_, ?_, ?_⟩
      · intro k hk
        show (if k = S.1 then p else piv k) < p + 1
        split
        · omega
        · have := he.lt k (by have : k < S.1 + 1 := hk; omega); omega
      · intro k l hkl hl
        have hl' : l < S.1 + 1 := hl
        show (if k = S.1 then p else piv k) < (if l = S.1 then p else piv l)
        rw [if_neg (by omega)]
        split
        · exact he.lt k (by omega)
        · exact he.up k l hkl (by omega)
      · intro k r hk hr
        have hk' : k < S.1 + 1 := hk
        show ef (clearL S.1 p (swapL S.2.1 S.1 i) (swapL S.2.2 S.1 i)).1 r (if k = S.1 then p else piv k) = idm r k
        rw [e2]
        by_cases ek : k = S.1
        · rw [if_pos ek]
          by_cases er : r = S.1
          · rw [if_pos er, Fd.inv_mul hfp, er, ek]
            unfold idm; rw [if_pos rfl]
          · rw [if_neg er, Fd.inv_mul hfp, Fd.mul_one, Fd.add_self]
            unfold idm; rw [if_neg (by omega)]
        · rw [if_neg ek]
          have z : ef (swapL S.2.1 S.1 i) S.1 (piv k) = 0 := by
            rw [c1 k S.1 (by omega) ha]; unfold idm; rw [if_neg (fun e => ek e.symm)]
          rw [z, Fd.mul_zero, Fd.mul_zero, Fd.add_zero]
          by_cases er : r = S.1
          · rw [if_pos er, er]; unfold idm; rw [if_neg (fun e => ek e.symm)]
          · rw [if_neg er]; exact c1 k r (by omega) hr
      · intro r j h1 h2 h3
        have h1' : S.1 + 1 ≤ r := h1
        show ef (clearL S.1 p (swapL S.2.1 S.1 i) (swapL S.2.2 S.1 i)).1 r j = 0
        rw [e2, if_neg (by omega)]
        by_cases ej : j = p
        · subst ej
          rw [Fd.inv_mul hfp, Fd.mul_one, Fd.add_self]
        · rw [c2 r j (by omega) h2 (by omega), c2 S.1 j (by omega) ha (by omega), Fd.mul_zero, Fd.mul_zero, Fd.add_zero]
theorem redSo_rinv {n x y : Nat} {M O : Tab} (hM : Gd n x M) (hO : Gd n y O) : ∀ p, p ≤ x → RInv n x y p M O (redSo M O p)
  | 0, _ => ⟨Nat.zero_le _, hM, hO, RowEq.refl _ _ _, fun _ => 0, fun k hk => absurd hk (Nat.not_lt_zero _), fun k l h hl => absurd hl (Nat.not_lt_zero _), fun k i hk => absurd hk (Nat.not_lt_zero _), fun i j _ _ hj => absurd hj (Nat.not_lt_zero _)⟩
  | p + 1, h => by
    rw [redSo_succ]
    exact stepP_rinv (by omega) (redSo_rinv hM hO p (by omega))
theorem sm_cut {n a : Nat} {f : Nat → Fd} (h : a ≤ n) (hz : ∀ k, a ≤ k → k < n → f k = 0) : sm n f = sm a f := by
  obtain ⟨d, rfl⟩ : ∃ d, n = a + d := ⟨n - a, by omega⟩
  clear h
  induction d with
  | zero => rfl
  | succ d ih =>
    show sm (a + d) f + f (a + d) = sm a f
    rw [hz (a + d) (by omega) (by omega), Fd.add_zero]
    exact ih (fun k h1 h2 => hz k h1 (by omega))
theorem rank_red {n x y : Nat} {M O : Tab} (hM : Gd n x M) (hO : Gd n y O) : Rk n x (ef M) (redSo M O x).1 := by
  obtain ⟨hle, hgm, hgo, ⟨E, F, h1, h2, h3⟩, piv, he⟩ := redSo_rinv hM hO x (Nat.le_refl _)
  refine ⟨⟨F, ef (redSo M O x).2.1, fun i j hi hj => ?_⟩, E, fun l k => idm l (piv k), fun i j hi hj => ?_⟩
  · have e : ef M i j = mm n F (ef (redSo M O x).2.1) i j := by
      calc ef M i j = mm n idm (ef M) i j := (id_mm _ hi).symm
        _ = mm n (mm n F E) (ef M) i j := mm_congr (fun k hk => (h1 i k hi hk).symm) (fun _ _ => rfl)
        _ = mm n F (mm n E (ef M)) i j := mm_assoc _ _ _ _ _ _ _
        _ = mm n F (ef (redSo M O x).2.1) i j := mm_congr (fun _ _ => rfl) (fun k hk => (h2 k j hk).symm)
    rw [e]
    exact sm_cut hle (fun k h4 h5 => by rw [he.none k j h4 h5 hj, Fd.mul_zero])
  · have e : mm x (mm n E (ef M)) (fun l k => idm l (piv k)) i j = ef (redSo M O x).2.1 i (piv j) := by
      calc _ = mm x (ef (redSo M O x).2.1) (fun l k => idm l (piv k)) i j := mm_congr (fun k hk => (h2 i k (by omega)).symm) (fun _ _ => rfl)
        _ = mm x (ef (redSo M O x).2.1) idm i (piv j) := rfl
        _ = _ := mm_id _ (he.lt j hj)
    rw [e]
    exact he.at' j i hj (by omega)
theorem up_eq {piv : Nat → Nat} {n : Nat} (h1 : ∀ k, k < n → piv k < n) (h2 : ∀ k l, k < l → l < n → piv k < piv l) : ∀ k, k < n → piv k = k := by
  have lo : ∀ k, k < n → k ≤ piv k := by
    intro k
    induction k with
    | zero => intro _; exact Nat.zero_le _
    | succ k ih => intro h; have := ih (by omega); have := h2 k (k + 1) (by omega) h; omega
  have hi : ∀ d k, k + d + 1 = n → piv k ≤ k := by
    intro d
    induction d with
    | zero => intro k h; have := h1 k (by omega); omega
    | succ d ih => intro k h; have := ih (k + 1) (by omega); have := h2 k (k + 1) (by omega) (by omega); omega
  intro k hk
  have := lo k hk
  have := hi (n - 1 - k) k (by omega)
  omega
/-- All rows count: the other side is the inverse. -/
theorem inverse_red {n : Nat} {M O : Tab} (hM : Gd n n M) (hO : Gd n n O) (hid : ∀ i j, i < n → j < n → ef O i j = idm i j) (hfull : (redSo M O n).1 = n) :
    Gd n n (redSo M O n).2.2 ∧ (∀ i j, i < n → j < n → mm n (ef (redSo M O n).2.2) (ef M) i j = idm i j) ∧ (∀ i j, i < n → j < n → mm n (ef M) (ef (redSo M O n).2.2) i j = idm i j) := by
  obtain ⟨hle, hgm, hgo, ⟨E, F, h1, h2, h3⟩, piv, he⟩ := redSo_rinv hM hO n (Nat.le_refl _)
  rw [hfull] at he
  have hpv := up_eq he.lt he.up
  have hI : ∀ i j, i < n → j < n → ef (redSo M O n).2.1 i j = idm i j := fun i j hi hj => by
    have := he.at' j i hj hi
    rwa [hpv j hj] at this
  have hO' : ∀ i j, i < n → j < n → ef (redSo M O n).2.2 i j = E i j := fun i j hi hj => by
    rw [h3 i j hi]
    calc mm n E (ef O) i j = mm n E idm i j := mm_congr (fun _ _ => rfl) (fun k hk => hid k j hk hj)
      _ = E i j := mm_id E hj
  have hF : ∀ i j, i < n → j < n → ef M i j = F i j := fun i j hi hj => by
    calc ef M i j = mm n idm (ef M) i j := (id_mm _ hi).symm
      _ = mm n (mm n F E) (ef M) i j := mm_congr (fun k hk => (h1 i k hi hk).symm) (fun _ _ => rfl)
      _ = mm n F (mm n E (ef M)) i j := mm_assoc _ _ _ _ _ _ _
      _ = mm n F idm i j := mm_congr (fun _ _ => rfl) (fun k hk => by rw [← h2 k j hk, hI k j hk hj])
      _ = F i j := mm_id F hj
  refine ⟨hgo, fun i j hi hj => ?_, fun i j hi hj => ?_⟩
  · rw [← hI i j hi hj, h2 i j hi]
    exact mm_congr (fun k hk => hO' i k hi hk) (fun _ _ => rfl)
  · rw [← h1 i j hi hj]
    exact mm_congr (fun k hk => hF i k hi hk) (fun k hk => hO' k j hk hj)
end Go.Proofs.YtnmlmpffmjhihaaGreat
namespace Go.Proofs.YtnmlmpffmjhihaaGreat
set_option linter.unusedVariables false
theorem Gd.of_chk {M : Tab} (h : chkM M = 0) (hb : AllB M) : Gd M.length (wid M) M ∧ (1 ≤ M.length ∧ M.length ≤ 255) ∧ (1 ≤ wid M ∧ wid M ≤ 255) := by
  obtain ⟨h1, h2, h3⟩ := chkM_zero h
  exact ⟨⟨rfl, wide_of h3, hb⟩, h1, h2⟩
theorem Gd.wid {n x : Nat} {M : Tab} (h : Gd n x M) (hn : 1 ≤ n) : wid M = x := by
  have := h.wide 0 (by rw [h.len]; omega)
  rw [← this]
  exact (wid_eq (by rw [h.len]; omega)).symm
theorem Gd.chk {n x : Nat} {M : Tab} (h : Gd n x M) (hn : 1 ≤ n) (hn2 : n ≤ 255) (hx : 1 ≤ x) (hx2 : x ≤ 255) : chkM M = 0 := by
  have hw := h.wid hn
  refine chkM_ok (badZ_no (by rw [h.len]; omega) (by rw [h.len]; omega)) (badZ_no (by rw [hw]; omega) (by rw [hw]; omega)) (fun r hr => ?_)
  obtain ⟨i, hi, rfl⟩ := List.mem_iff_getElem.1 hr
  rw [hw]
  exact h.wide i hi
theorem gd_id (n : Nat) : Gd n n (idM n) := ⟨idM_length n, wide_id n, fun i hi => by
  simp only [idM, List.getElem_map]
  exact idRow_lt _ _⟩
theorem ef_id (n i j : Nat) (hi : i < n) (hj : j < n) : ef (idM n) i j = idm i j := by
  unfold ef
  rw [entM_get _ i j (by rw [idM_length]; exact hi) (by simp [idM, idRow_length, hj])]
  simp only [idM, List.getElem_map, List.getElem_range, idRow]
  rw [List.getElem_set]
  unfold idm
  by_cases e : i = j
  · rw [if_pos e, if_pos e]; rfl
  · rw [if_neg e, if_neg e]; simp [fd_zero]
theorem fd_dot (r : List Nat) (Q : Tab) (j : Nat) (hr : ∀ x ∈ r, x < 256) (hQ : AllB Q) : ∀ m, fd (dotS r Q j m) = sm m (fun k => fd (r.getD k 0) * ef Q k j)
  | 0 => rfl
  | m + 1 => by
    rw [dotS_succ, fd_xor, fd_dot r Q j hr hQ m, fd_gm _ _ (getD_lt hr m) (entM_lt hQ m j)]
    rfl
section
variable {n m y : Nat} {A Q : Tab}
theorem gd_mul (hA : Gd n m A) (hQ : Gd m y Q) (hm : 1 ≤ m) : Gd n y (mulT A Q) := by
  refine ⟨by rw [mulT_length, hA.len], fun i hi => ?_, fun i hi => ?_⟩
  · simp only [mulT, List.getElem_map, mulSo_length]
    exact hQ.wid hm
  · simp only [mulT, List.getElem_map]
    exact mulSo_lt _ _ _
theorem ef_mul (hA : Gd n m A) (hQ : Gd m y Q) (hm : 1 ≤ m) (i j : Nat) (hi : i < n) (hj : j < y) : ef (mulT A Q) i j = mm m (ef A) (ef Q) i j := by
  have hw := hQ.wid hm
  have hiA : i < A.length := by rw [hA.len]; exact hi
  unfold ef
  rw [entM_get _ i j (by rw [mulT_length]; exact hiA) (by simp [mulT, mulSo_length, hw, hj])]
  simp only [mulT, List.getElem_map, mulSo, List.getElem_range]
  rw [fd_dot _ _ _ (hA.all i hiA) hQ.all, hQ.len]
  refine sm_congr (fun k hk => ?_)
  congr 2
  unfold entM
  rw [getD_get A i [] hiA]
theorem mul_yes (hA : Gd n m A) (hQ : Gd m y Q) (hn : 1 ≤ n ∧ n ≤ 255) (hm : 1 ≤ m ∧ m ≤ 255) (hy : 1 ≤ y ∧ y ≤ 255) : mulE A Q = 0 ∧ mulV A Q = mulT A Q := by
  have e : mulE A Q = 0 := mulE_ok (hA.chk hn.1 hn.2 hm.1 hm.2) (hQ.chk hm.1 hm.2 hy.1 hy.2) (by rw [hA.wid hn.1, hQ.len])
  exact ⟨e, by unfold mulV; rw [if_pos e]⟩
end
/-- The identity changes nothing. -/
theorem mul_id {M : Tab} (h : chkM M = 0) (hb : AllB M) : mulE M (idM (wid M)) = 0 ∧ mulV M (idM (wid M)) = M ∧ badZ (wid M) = false := by
  obtain ⟨hM, hn, hx⟩ := Gd.of_chk h hb
  have hm := mul_yes hM (gd_id (wid M)) hn hx hx
  refine ⟨hm.1, ?_, badZ_no (by omega) (by omega)⟩
  rw [hm.2]
  refine Gd.ext (gd_mul hM (gd_id _) hx.1) hM (fun i j hi hj => ?_)
  rw [ef_mul hM (gd_id _) hx.1 i j hi hj]
  calc mm (wid M) (ef M) (ef (idM (wid M))) i j = mm (wid M) (ef M) idm i j := mm_congr (fun _ _ => rfl) (fun k hk => ef_id _ k j hk hj)
    _ = ef M i j := mm_id _ hj
/-! Ranks. -/
theorem gd_rep (n : Nat) : Gd n 0 (List.replicate n ([] : List Nat)) := ⟨by simp, wide_nil n, fun i hi => by simp⟩
theorem rank_is {M : Tab} (h : chkM M = 0) (hb : AllB M) : Rk M.length (wid M) (ef M) (rankM M) ∧ rankV M = rankM M := by
  obtain ⟨hM, hn, hx⟩ := Gd.of_chk h hb
  exact ⟨rank_red hM (gd_rep _), by unfold rankV; rw [if_pos h]⟩
def turnL (M : Tab) : Tab := (List.range (wid M)).map fun j => (List.range M.length).map fun i => entM M i j
theorem gd_turn {n x : Nat} {M : Tab} (h : Gd n x M) (hn : 1 ≤ n) : Gd x n (turnL M) := by
  have hw := h.wid hn
  refine ⟨by simp [turnL, hw], fun i hi => by simp [turnL, h.len], fun i hi y hy => ?_⟩
  simp only [turnL, List.getElem_map, List.mem_map] at hy
  obtain ⟨k, _, rfl⟩ := hy
  exact h.lt _ _
theorem ef_turn {n x : Nat} {M : Tab} (h : Gd n x M) (hn : 1 ≤ n) (i j : Nat) (hi : i < x) (hj : j < n) : ef (turnL M) i j = ef M j i := by
  have hw := h.wid hn
  unfold ef
  rw [entM_get _ i j (by simp [turnL, hw, hi]) (by simp [turnL, h.len, hj])]
  simp [turnL]
/-- What the law of ranks says. -/
theorem ranks_law {A : Tab} (h : chkM A = 0) (hb : AllB A) : rankM A ≤ A.length ∧ rankM A ≤ wid A ∧ chkM (turnL A) = 0 ∧ rankV (turnL A) = rankM A ∧ rankV A = rankM A ∧ AllB (turnL A) := by
  obtain ⟨hA, hn, hx⟩ := Gd.of_chk h hb
  obtain ⟨hr, hv⟩ := rank_is h hb
  have hT := gd_turn hA hn.1
  have hc := hT.chk hx.1 hx.2 hn.1 hn.2
  obtain ⟨hr2, hv2⟩ := rank_is hc hT.all
  rw [hT.len, hT.wid hx.1] at hr2
  refine ⟨hr.le_rows, hr.le_places, hc, ?_, hv, hT.all⟩
  rw [hv2]
  congr 1
  exact Rk.unique hr2 (Rk.congr hr.turn (fun i j hi hj => (ef_turn hA hn.1 i j hi hj).symm))
theorem ranks_mul {A Q : Tab} (hb : AllB A) (hq : AllB Q) (he : mulE A Q = 0) : chkM A = 0 ∧ chkM Q = 0 ∧ chkM (mulV A Q) = 0 ∧ rankM (mulV A Q) ≤ rankM A ∧ rankM (mulV A Q) ≤ rankM Q ∧ AllB (mulV A Q) := by
  have hcA : chkM A = 0 := Classical.byContradiction fun h => by rw [mulE_a h] at he; exact h he
  have hcQ : chkM Q = 0 := Classical.byContradiction fun h => by rw [mulE_q hcA h] at he; exact h he
  have hl : wid A = Q.length := Classical.byContradiction fun h => by rw [mulE_l hcA hcQ h] at he; cases he
  obtain ⟨hA, hn, hx⟩ := Gd.of_chk hcA hb
  obtain ⟨hQ, hm, hy⟩ := Gd.of_chk hcQ hq
  rw [hl] at hA hx
  have hP := gd_mul hA hQ hm.1
  have hv : mulV A Q = mulT A Q := (mul_yes hA hQ hn hm hy).2
  rw [hv]
  have hcP := hP.chk hn.1 hn.2 hy.1 hy.2
  obtain ⟨rA, _⟩ := rank_is hcA hb
  obtain ⟨rQ, _⟩ := rank_is hcQ hq
  obtain ⟨rP, _⟩ := rank_is hcP hP.all
  rw [hl] at rA
  rw [hP.len, hP.wid hn.1] at rP
  have rP' := Rk.congr rP (fun i j hi hj => ef_mul hA hQ hm.1 i j hi hj)
  exact ⟨hcA, hcQ, hcP, Rk.mul_left rA rP', Rk.mul_right rQ rP', hP.all⟩
/-! Inverses. -/
theorem inv_yes {M : Tab} (hb : AllB M) (h : invE M = 0) : chkM M = 0 ∧ M.length = wid M ∧ (redI M).1 = M.length := by
  have hc : chkM M = 0 := Classical.byContradiction fun hc => by rw [invE_chk hc] at h; exact hc h
  have hl : M.length = wid M := Classical.byContradiction fun hl => by rw [invE_len hc hl] at h; cases h
  have hs : ¬ (redI M).1 < M.length := fun hs => by rw [invE_sing hc hl hs] at h; cases h
  obtain ⟨hM, _, _⟩ := Gd.of_chk hc hb
  rw [← hl] at hM
  have := (redSo_rinv hM (gd_id M.length) M.length (Nat.le_refl _)).le
  unfold redI at hs ⊢
  exact ⟨hc, hl, by omega⟩
theorem inv_facts {M : Tab} (hb : AllB M) (h : invE M = 0) : Gd M.length M.length M ∧ (1 ≤ M.length ∧ M.length ≤ 255) ∧ Gd M.length M.length (invV M) ∧
    (∀ i j, i < M.length → j < M.length → mm M.length (ef (invV M)) (ef M) i j = idm i j) ∧ (∀ i j, i < M.length → j < M.length → mm M.length (ef M) (ef (invV M)) i j = idm i j) := by
  obtain ⟨hc, hl, hf⟩ := inv_yes hb h
  obtain ⟨hM, hn, _⟩ := Gd.of_chk hc hb
  rw [← hl] at hM
  have := inverse_red hM (gd_id M.length) (fun i j hi hj => ef_id _ i j hi hj) hf
  have hv : invV M = (redSo M (idM M.length) M.length).2.2 := by unfold invV; rw [if_pos h]; rfl
  rw [hv]
  exact ⟨hM, hn, this⟩
theorem mul_undo {n : Nat} {A B : Tab} (hA : Gd n n A) (hB : Gd n n B) (hn : 1 ≤ n ∧ n ≤ 255) (h : ∀ i j, i < n → j < n → mm n (ef A) (ef B) i j = idm i j) : mulV A B = idM n := by
  rw [(mul_yes hA hB hn hn hn).2]
  refine Gd.ext (gd_mul hA hB hn.1) (gd_id n) (fun i j hi hj => ?_)
  rw [ef_mul hA hB hn.1 i j hi hj, h i j hi hj, ef_id n i j hi hj]
/-- It has an inverse if all its rows count. -/
theorem inv_of_rank {n : Nat} {M : Tab} (hM : Gd n n M) (hn : 1 ≤ n ∧ n ≤ 255) (hr : Rk n n (ef M) n) : invE M = 0 := by
  have hl := hM.len
  have hc := hM.chk hn.1 hn.2 hn.1 hn.2
  refine invE_ok hc (by rw [hl, hM.wid hn.1]) ?_
  have : (redI M).1 = n := by
    unfold redI
    rw [hl]
    exact Rk.unique (rank_red hM (gd_id n)) hr
  omega
theorem invert_law {M : Tab} (hb : AllB M) (h : invE M = 0) : mulV M (invV M) = idM M.length ∧ mulV (invV M) M = idM M.length ∧ invE (invV M) = 0 ∧ invV (invV M) = M ∧ badZ M.length = false := by
  obtain ⟨hM, hn, hX, h1, h2⟩ := inv_facts hb h
  have hrX : Rk M.length M.length (ef (invV M)) M.length :=
    ⟨⟨ef (invV M), idm, fun i j hi hj => (mm_id _ hj).symm⟩, idm, ef M, fun i j hi hj => by
      rw [← h1 i j hi hj]
      exact mm_congr (fun k hk => id_mm _ hi) (fun _ _ => rfl)⟩
  have hx0 := inv_of_rank hX hn hrX
  refine ⟨mul_undo hM hX hn h2, mul_undo hX hM hn h1, hx0, ?_, badZ_no (by omega) (by omega)⟩
  obtain ⟨_, _, hY, k1, k2⟩ := inv_facts hX.all hx0
  rw [hX.len] at hY k1 k2
  refine Gd.ext hY hM (fun i j hi hj => ?_)
  calc ef (invV (invV M)) i j = mm M.length idm (ef (invV (invV M))) i j := (id_mm _ hi).symm
    _ = mm M.length (mm M.length (ef M) (ef (invV M))) (ef (invV (invV M))) i j := mm_congr (fun k hk => (h2 i k hi hk).symm) (fun _ _ => rfl)
    _ = mm M.length (ef M) (mm M.length (ef (invV M)) (ef (invV (invV M)))) i j := mm_assoc _ _ _ _ _ _ _
    _ = mm M.length (ef M) idm i j := mm_congr (fun _ _ => rfl) (fun k hk => k2 k j hk hj)
    _ = ef M i j := mm_id _ hj
theorem invert_sing {M : Tab} (hb : AllB M) (h : invE M = 14) : chkM M = 0 ∧ rankV M < M.length ∧ rankV M = rankM M := by
  have hc : chkM M = 0 := Classical.byContradiction fun hc => by
    rw [invE_chk hc] at h
    unfold chkM at h
    split at h
    · cases h
    · split at h <;> cases h
  have hl : M.length = wid M := Classical.byContradiction fun hl => by rw [invE_len hc hl] at h; cases h
  have hs : (redI M).1 < M.length := Classical.byContradiction fun hs => by rw [invE_ok hc hl hs] at h; cases h
  obtain ⟨hM, _, _⟩ := Gd.of_chk hc hb
  obtain ⟨hr, hv⟩ := rank_is hc hb
  rw [← hl] at hM hr
  have := Rk.unique (rank_red hM (gd_id M.length)) hr
  unfold redI at hs
  exact ⟨hc, by rw [hv, ← this]; exact_mod_cast hs, hv⟩
end Go.Proofs.YtnmlmpffmjhihaaGreat
namespace Go.Proofs.YtnmlmpffmjhihaaGreat
set_option linter.unusedVariables false
/-- The sum over a list. -/
def ls : List Nat → (Nat → Fd) → Fd
  | [], _ => 0
  | y :: ys, f => f y + ls ys f
theorem ls_congr : ∀ {ys : List Nat} {f g : Nat → Fd}, (∀ y ∈ ys, f y = g y) → ls ys f = ls ys g
  | [], _, _, _ => rfl
  | y :: ys, f, g, h => by
    show f y + ls ys f = g y + ls ys g
    rw [h y (by simp), ls_congr (fun z hz => h z (by simp [hz]))]
theorem ls_add : ∀ (ys : List Nat) (f g : Nat → Fd), ls ys (fun i => f i + g i) = ls ys f + ls ys g
  | [], _, _ => (Fd.add_zero 0).symm
  | y :: ys, f, g => by
    show (f y + g y) + ls ys (fun i => f i + g i) = (f y + ls ys f) + (g y + ls ys g)
    rw [ls_add ys f g]
    ac_rfl
theorem ls_mul : ∀ (ys : List Nat) (c : Fd) (f : Nat → Fd), c * ls ys f = ls ys (fun i => c * f i)
  | [], c, _ => Fd.mul_zero c
  | y :: ys, c, f => by
    show c * (f y + ls ys f) = c * f y + ls ys (fun i => c * f i)
    rw [Fd.mul_add, ls_mul ys c f]
theorem ls_zero : ∀ {ys : List Nat} {f : Nat → Fd}, (∀ y ∈ ys, f y = 0) → ls ys f = 0
  | [], _, _ => rfl
  | y :: ys, f, h => by
    show f y + ls ys f = 0
    rw [h y (by simp), ls_zero (fun z hz => h z (by simp [hz])), Fd.add_zero]
theorem ls_append : ∀ (xs ys : List Nat) (f : Nat → Fd), ls (xs ++ ys) f = ls xs f + ls ys f
  | [], ys, f => (Fd.zero_add _).symm
  | x :: xs, ys, f => by
    show f x + ls (xs ++ ys) f = (f x + ls xs f) + ls ys f
    rw [ls_append xs ys f, Fd.add_assoc]
theorem sm_ls : ∀ (n : Nat) (f : Nat → Fd), sm n f = ls (List.range n) f
  | 0, _ => rfl
  | n + 1, f => by
    rw [List.range_succ, ls_append, ← sm_ls n f]
    show sm n f + f n = sm n f + (f n + 0)
    rw [Fd.add_zero]
theorem ls_filter : ∀ (ys : List Nat) (p : Nat → Bool) (f : Nat → Fd), (∀ y ∈ ys, p y = false → f y = 0) → ls ys f = ls (ys.filter p) f
  | [], _, _, _ => rfl
  | y :: ys, p, f, h => by
    have ih := ls_filter ys p f (fun z hz => h z (by simp [hz]))
    rw [List.filter_cons]
    cases hp : p y with
    | true =>
      show f y + ls ys f = f y + ls (ys.filter p) f
      rw [ih]
    | false =>
      show f y + ls ys f = ls (ys.filter p) f
      rw [h y (by simp) hp, Fd.zero_add, ih]
theorem fd_ne {x y : Nat} (hx : x < 256) (hy : y < 256) (h : x ≠ y) : fd x + fd y ≠ 0 := fun e => h (fd_inj hx hy (Fd.add_cancel e))
theorem term_eq (p q s v : Fd) (hp : p ≠ 0) (hq : q ≠ 0) : (p + s) * (v * p.inv) + (q + s) * (v * q.inv) = (p + q) * (v * s * q.inv * p.inv) := by
  have e1 : (p + s) * (v * p.inv) = v + s * v * p.inv := by
    rw [Fd.add_mul]
    congr 1
    · calc p * (v * p.inv) = v * (p * p.inv) := by ac_rfl
        _ = v := by rw [Fd.mul_inv hp, Fd.mul_one]
    · ac_rfl
  have e2 : (q + s) * (v * q.inv) = v + s * v * q.inv := by
    rw [Fd.add_mul]
    congr 1
    · calc q * (v * q.inv) = v * (q * q.inv) := by ac_rfl
        _ = v := by rw [Fd.mul_inv hq, Fd.mul_one]
    · ac_rfl
  have e3 : (p + q) * (v * s * q.inv * p.inv) = s * v * q.inv + s * v * p.inv := by
    rw [Fd.add_mul]
    congr 1
    · calc p * (v * s * q.inv * p.inv) = (s * v * q.inv) * (p * p.inv) := by ac_rfl
        _ = _ := by rw [Fd.mul_inv hp, Fd.mul_one]
    · calc q * (v * s * q.inv * p.inv) = (s * v * p.inv) * (q * q.inv) := by ac_rfl
        _ = _ := by rw [Fd.mul_inv hq, Fd.mul_one]
  rw [e1, e2, e3]
  calc (v + s * v * p.inv) + (v + s * v * q.inv) = (v + v) + (s * v * q.inv + s * v * p.inv) := by ac_rfl
    _ = _ := by rw [Fd.add_self, Fd.zero_add]
/-- Cauchy's table has no kernel. -/
theorem cauchy_zero : ∀ (ys xs : List Nat) (v : Nat → Fd), ys.length ≤ xs.length → xs.Nodup → ys.Nodup → (∀ x ∈ xs, x < 256) → (∀ y ∈ ys, y < 256) → (∀ x ∈ xs, ∀ y ∈ ys, x ≠ y) →
    (∀ x ∈ xs, ls ys (fun y => v y * (fd x + fd y).inv) = 0) → ∀ y ∈ ys, v y = 0
  | [], _, _, _, _, _, _, _, _, _ => by simp
  | y0 :: ys, [], _, h, _, _, _, _, _, _ => by simp at h
  | y0 :: ys, x0 :: xs, v, hl, hnx, hny, hx, hy, hne, h0 => by
    have hx0 : x0 < 256 := hx x0 (by simp)
    have hy0 : y0 < 256 := hy y0 (by simp)
    have q0 : fd x0 + fd y0 ≠ 0 := fd_ne hx0 hy0 (hne x0 (by simp) y0 (by simp))
    rw [List.nodup_cons] at hnx hny
    have hys : ∀ y ∈ ys, v y = 0 := by
      have ih := cauchy_zero ys xs (fun y => v y * (fd y + fd y0) * (fd x0 + fd y).inv) (by simpa using hl) hnx.2 hny.2 (fun x h => hx x (by simp [h])) (fun y h => hy y (by simp [h]))
        (fun x h y h' => hne x (by simp [h]) y (by simp [h'])) (fun x hxm => by
          have hxl := hx x (by simp [hxm])
          have hxx : fd x + fd x0 ≠ 0 := fd_ne hxl hx0 (fun e => hnx.1 (by rw [← e]; exact hxm))
          have p0 : fd x + fd y0 ≠ 0 := fd_ne hxl hy0 (hne x (by simp [hxm]) y0 (by simp))
          refine Fd.eq_zero_of_mul (a := fd x + fd x0) ?_ hxx
          have hA : (fd x + fd y0) * ls (y0 :: ys) (fun y => v y * (fd x + fd y).inv) = 0 := by rw [h0 x (by simp [hxm]), Fd.mul_zero]
          have hB : (fd x0 + fd y0) * ls (y0 :: ys) (fun y => v y * (fd x0 + fd y).inv) = 0 := by rw [h0 x0 (by simp), Fd.mul_zero]
          have hA' : v y0 + ls ys (fun y => (fd x + fd y0) * (v y * (fd x + fd y).inv)) = 0 := by
            rw [← hA]
            show _ = (fd x + fd y0) * (v y0 * (fd x + fd y0).inv + ls ys (fun y => v y * (fd x + fd y).inv))
            rw [Fd.mul_add, ls_mul]
            congr 1
            calc v y0 = v y0 * ((fd x + fd y0) * (fd x + fd y0).inv) := by rw [Fd.mul_inv p0, Fd.mul_one]
              _ = _ := by ac_rfl
          have hB' : v y0 + ls ys (fun y => (fd x0 + fd y0) * (v y * (fd x0 + fd y).inv)) = 0 := by
            rw [← hB]
            show _ = (fd x0 + fd y0) * (v y0 * (fd x0 + fd y0).inv + ls ys (fun y => v y * (fd x0 + fd y).inv))
            rw [Fd.mul_add, ls_mul]
            congr 1
            calc v y0 = v y0 * ((fd x0 + fd y0) * (fd x0 + fd y0).inv) := by rw [Fd.mul_inv q0, Fd.mul_one]
              _ = _ := by ac_rfl
          have hC : ls ys (fun y => (fd x + fd y0) * (v y * (fd x + fd y).inv)) + ls ys (fun y => (fd x0 + fd y0) * (v y * (fd x0 + fd y).inv)) = 0 := by
            have : (v y0 + ls ys (fun y => (fd x + fd y0) * (v y * (fd x + fd y).inv))) + (v y0 + ls ys (fun y => (fd x0 + fd y0) * (v y * (fd x0 + fd y).inv))) = 0 := by rw [hA', hB', Fd.add_zero]
            rw [← this]
            calc _ = (v y0 + v y0) + (ls ys (fun y => (fd x + fd y0) * (v y * (fd x + fd y).inv)) + ls ys (fun y => (fd x0 + fd y0) * (v y * (fd x0 + fd y).inv))) := by rw [Fd.add_self, Fd.zero_add]
              _ = _ := by ac_rfl
          rw [← hC, ← ls_add, ls_mul]
          refine ls_congr (fun y hym => ?_)
          have hyl := hy y (by simp [hym])
          have hp : fd x + fd y ≠ 0 := fd_ne hxl hyl (hne x (by simp [hxm]) y (by simp [hym]))
          have hq : fd x0 + fd y ≠ 0 := fd_ne hx0 hyl (hne x0 (by simp) y (by simp [hym]))
          have ht := term_eq (fd x + fd y) (fd x0 + fd y) (fd y + fd y0) (v y) hp hq
          have z1 : (fd x + fd y) + (fd y + fd y0) = fd x + fd y0 := by
            calc _ = fd x + (fd y + fd y) + fd y0 := by ac_rfl
              _ = _ := by rw [Fd.add_self, Fd.add_zero]
          have z2 : (fd x0 + fd y) + (fd y + fd y0) = fd x0 + fd y0 := by
            calc _ = fd x0 + (fd y + fd y) + fd y0 := by ac_rfl
              _ = _ := by rw [Fd.add_self, Fd.add_zero]
          have z3 : (fd x + fd y) + (fd x0 + fd y) = fd x + fd x0 := by
            calc _ = fd x + (fd y + fd y) + fd x0 := by ac_rfl
              _ = _ := by rw [Fd.add_self, Fd.add_zero]
          rw [z1, z2, z3] at ht
          exact ht.symm)
      intro y hym
      have hyl := hy y (by simp [hym])
      have h1 : fd y + fd y0 ≠ 0 := fd_ne hyl hy0 (fun e => hny.1 (by rw [← e]; exact hym))
      have hq : fd x0 + fd y ≠ 0 := fd_ne hx0 hyl (hne x0 (by simp) y (by simp [hym]))
      have e := ih y hym
      refine Fd.eq_zero_of_mul (a := (fd y + fd y0) * (fd x0 + fd y).inv) ?_ (Fd.mul_ne h1 (Fd.inv_ne hq))
      rw [← e]
      show _ = v y * (fd y + fd y0) * (fd x0 + fd y).inv
      ac_rfl
    intro y hym
    rcases List.mem_cons.1 hym with rfl | hym
    · have e := h0 x0 (by simp)
      have e' : v y * (fd x0 + fd y).inv + ls ys (fun z => v z * (fd x0 + fd z).inv) = 0 := e
      rw [ls_zero (fun z hz => by rw [hys z hz, Fd.zero_mul]), Fd.add_zero, Fd.mul_comm] at e'
      exact Fd.eq_zero_of_mul e' (Fd.inv_ne q0)
    · exact hys y hym
theorem len_le_of_sub : ∀ (l1 l2 : List Nat), l1.Nodup → (∀ x ∈ l1, x ∈ l2) → l1.length ≤ l2.length
  | [], _, _, _ => Nat.zero_le _
  | x :: l1, l2, hn, hs => by
    rw [List.nodup_cons] at hn
    have hx : x ∈ l2 := hs x (by simp)
    have := len_le_of_sub l1 (l2.erase x) hn.2 (fun y hy => (List.mem_erase_of_ne (fun e => hn.1 (by rw [← e]; exact hy))).2 (hs y (by simp [hy])))
    rw [List.length_erase_of_mem hx] at this
    have hp : 0 < l2.length := List.length_pos_of_mem hx
    simp only [List.length_cons]
    omega
theorem len_split (p : Nat → Bool) : ∀ l : List Nat, (l.filter p).length + (l.filter (fun x => !p x)).length = l.length
  | [] => rfl
  | x :: l => by
    have := len_split p l
    cases h : p x <;> simp [h] <;> omega
def pickT (k : Nat) (at' : List Nat) : Tab := at'.map (rowL k)
theorem gd_pick (k : Nat) (at' : List Nat) : Gd at'.length k (pickT k at') := by
  refine ⟨by simp [pickT], fun i hi => by simp [pickT, rowL_length], fun i hi x hx => ?_⟩
  simp only [pickT, List.getElem_map, rowL, List.mem_map] at hx
  obtain ⟨j, _, rfl⟩ := hx
  exact ent_lt _ _ _
theorem ef_pick (k : Nat) (at' : List Nat) (i j : Nat) (hi : i < at'.length) (hj : j < k) : ef (pickT k at') i j = fd (ent k at'[i] j) := by
  unfold ef
  rw [entM_get _ i j (by simpa [pickT] using hi) (by simp [pickT, rowL_length, hj])]
  simp [pickT, rowL]
/-- Any unlike rows have an inverse. -/
theorem cauchy_inv (k : Nat) (at' : List Nat) (hk : at'.length = k) (hk1 : 1 ≤ k) (hk2 : k ≤ 255) (hn : at'.Nodup) (hb : ∀ a ∈ at', a < 256) : invE (pickT k at') = 0 := by
  have hG := gd_pick k at'
  rw [hk] at hG
  refine inv_of_rank hG ⟨hk1, hk2⟩ ?_
  have hr := rank_red hG (gd_rep k)
  generalize (redSo (pickT k at') (List.replicate k []) k).1 = r at hr
  rcases Nat.lt_or_ge r k with hlt | hge
  · exfalso
    obtain ⟨v, ⟨j0, hj0, hv0⟩, hz⟩ := hr.kernel hlt
    -- the plain rows' places are none
    have hplain : ∀ a ∈ at', a < k → v a = 0 := fun a ha hak => by
      obtain ⟨i, hi, rfl⟩ := List.mem_iff_getElem.1 ha
      have := hz i (by omega)
      rw [sm_one (k := at'[i]) hak (fun j hj hne => by
        rw [ef_pick k at' i j hi hj]
        unfold ent
        rw [if_neg (by omega), if_neg (fun e => hne e.symm)]
        exact Fd.zero_mul _), ef_pick k at' i _ hi hak] at this
      unfold ent at this
      rw [if_neg (by omega), if_pos rfl, fd_one, Fd.one_mul] at this
      exact this
    have hcz := cauchy_zero ((List.range k).filter (fun j => !decide (j ∈ at'))) (at'.filter (fun a => !decide (a < k))) v ?_ (hn.filter _) (List.nodup_range.filter _) ?_ ?_ ?_ ?_
    · by_cases hm : j0 ∈ at'
      · exact hv0 (hplain j0 hm hj0)
      · exact hv0 (hcz j0 (by simp [hj0, hm]))
    · have h1 := len_split (fun j => decide (j ∈ at')) (List.range k)
      have h2 := len_split (fun a => decide (a < k)) at'
      have h3 := len_le_of_sub (at'.filter (fun a => decide (a < k))) ((List.range k).filter (fun j => decide (j ∈ at'))) (hn.filter _) (fun x hx => by
        simp only [List.mem_filter, decide_eq_true_eq, List.mem_range] at hx ⊢
        exact ⟨hx.2, hx.1⟩)
      rw [List.length_range] at h1
      omega
    · intro x hx
      exact hb x (List.mem_filter.1 hx).1
    · intro y hy
      have := (List.mem_filter.1 hy).1
      rw [List.mem_range] at this
      omega
    · intro x hx y hy e
      subst e
      have h1 := (List.mem_filter.1 hx).1
      have h2 := (List.mem_filter.1 hy).2
      simp [h1] at h2
    · intro x hx
      obtain ⟨hxa, hxk⟩ := List.mem_filter.1 hx
      obtain ⟨i, hi, rfl⟩ := List.mem_iff_getElem.1 hxa
      have hka : k ≤ at'[i] := by simpa using hxk
      have := hz i (by omega)
      rw [sm_ls, ls_filter (List.range k) (fun j => !decide (j ∈ at')) _ (fun j hj hp => by
        have hm : j ∈ at' := by simpa using hp
        rw [hplain j hm (List.mem_range.1 hj), Fd.mul_zero])] at this
      rw [← this]
      refine ls_congr (fun j hj => ?_)
      obtain ⟨hjr, hjn⟩ := List.mem_filter.1 hj
      have hjk := List.mem_range.1 hjr
      have hai : at'[i] < 256 := hb _ hxa
      have hne : at'[i] ≠ j := by omega
      rw [ef_pick k at' i j hi hjk]
      unfold ent
      rw [if_pos hka, Fd.mul_comm]
      congr 1
      apply Fd.eq
      have hx1 : at'[i] ^^^ j < 256 := Nat.xor_lt_two_pow (n := 8) hai (by omega)
      have hx0 : 0 < at'[i] ^^^ j := Nat.pos_of_ne_zero (fun e => fd_ne hai (show j < 256 by omega) hne (by rw [← fd_xor, e]; rfl))
      rw [fd_v (gi_facts _ hx0 hx1).2.1]
      show gi (fd at'[i] + fd j).v = _
      rw [← fd_xor, fd_v hx1]
  · have : r = k := Nat.le_antisymm hr.le_rows hge
    rw [← this]
    rw [this] at hr ⊢
    exact hr
end Go.Proofs.YtnmlmpffmjhihaaGreat
namespace Go.Proofs.YtnmlmpffmjhihaaGreat
set_option linter.unusedVariables false
def bN (l : List UInt8) : List Nat := l.map UInt8.toNat
def toS (l : List Nat) : List UInt8 := l.map UInt8.ofNat
theorem bN_length (l : List UInt8) : (bN l).length = l.length := by simp [bN]
theorem bN_lt (l : List UInt8) : ∀ x ∈ bN l, x < 256 := fun x hx => by
  obtain ⟨c, _, rfl⟩ := List.mem_map.1 hx
  exact c.toNat_lt
theorem toS_bN (l : List UInt8) : toS (bN l) = l := by
  unfold toS bN
  rw [List.map_map]
  conv => rhs; rw [← List.map_id l]
  exact List.map_congr_left (fun c _ => by simp)
theorem toS_length (l : List Nat) : (toS l).length = l.length := by simp [toS]
theorem bN_toS (l : List Nat) (h : ∀ x ∈ l, x < 256) : bN (toS l) = l := by
  unfold toS bN
  rw [List.map_map]
  conv => rhs; rw [← List.map_id l]
  refine List.map_congr_left (fun x hx => ?_)
  have := h x hx
  simp [Nat.mod_eq_of_lt this]
/-- Texts as a table. -/
def tabS (ts : List (List UInt8)) : Tab := ts.map bN
theorem tabS_length (ts : List (List UInt8)) : (tabS ts).length = ts.length := by simp [tabS]
theorem gd_tabS {ts : List (List UInt8)} {x : Nat} (h : ∀ t ∈ ts, t.length = x) : Gd ts.length x (tabS ts) :=
  ⟨tabS_length ts, fun i hi => by simp only [tabS, List.getElem_map, bN_length]; exact h _ (by simp), fun i hi => by simp only [tabS, List.getElem_map]; exact bN_lt _⟩
/-- Texts mixed by a row. -/
def mixS (row : List Nat) (ts : List (List UInt8)) : List UInt8 := toS (mulSo row (tabS ts) ts.length)
theorem mixS_all (M : Tab) (ts : List (List UInt8)) : M.map (fun r => mixS r ts) = (mulT M (tabS ts)).map toS := by
  unfold mulT mixS
  rw [List.map_map, tabS_length]
  rfl
/-- If M by D is T, T is decoded to D. -/
theorem mul_solve {k x : Nat} {M D : Tab} (hM : Gd k k M) (hk : 1 ≤ k ∧ k ≤ 255) (hx : 1 ≤ x) (hinv : invE M = 0) (hD : Gd k x D) : mulT (invV M) (mulT M D) = D := by
  obtain ⟨_, _, hX, h1, _⟩ := inv_facts hM.all hinv
  rw [hM.len] at hX h1
  have hT := gd_mul hM hD hk.1
  refine Gd.ext (gd_mul hX hT hk.1) hD (fun i j hi hj => ?_)
  rw [ef_mul hX hT hk.1 i j hi hj]
  calc mm k (ef (invV M)) (ef (mulT M D)) i j = mm k (ef (invV M)) (mm k (ef M) (ef D)) i j := mm_congr (fun _ _ => rfl) (fun l hl => ef_mul hM hD hk.1 l j hl hj)
    _ = mm k (mm k (ef (invV M)) (ef M)) (ef D) i j := (mm_assoc _ _ _ _ _ _ _).symm
    _ = mm k idm (ef D) i j := mm_congr (fun l hl => h1 i l hi hl) (fun _ _ => rfl)
    _ = ef D i j := id_mm _ hi
/-- A plain row picks. -/
theorem pick_row {k x : Nat} {D : Tab} (hD : Gd k x D) (hk : 1 ≤ k) (a : Nat) (ha : a < k) : mulSo (rowL k a) D D.length = D.getD a [] := by
  have hw := hD.wid hk
  have hrow := hD.row ha
  have hlen : (rowL k a).length = k := rowL_length k a
  apply List.ext_getElem
  · rw [mulSo_length, hw, hrow.1]
  · intro j h1 h2
    rw [mulSo_length, hw] at h1
    have hlt1 := dotS_lt (rowL k a) D j D.length
    have hlt2 := hrow.2 _ (List.getElem_mem h2)
    have e : (mulSo (rowL k a) D D.length)[j]'(by rw [mulSo_length, hw]; exact h1) = dotS (rowL k a) D j D.length := by simp [mulSo]
    rw [e]
    apply fd_inj hlt1 hlt2
    have hb : ∀ y ∈ rowL k a, y < 256 := fun y hy => by
      obtain ⟨l, _, rfl⟩ := List.mem_map.1 hy
      exact ent_lt _ _ _
    rw [fd_dot _ _ _ hb hD.all, hD.len, sm_one (k := a) ha (fun l hl hne => by
      rw [getD_get _ l 0 (by rw [hlen]; exact hl)]
      simp only [rowL, List.getElem_map, List.getElem_range]
      unfold ent
      rw [if_neg (by omega), if_neg (fun e => hne e.symm)]
      exact Fd.zero_mul _)]
    rw [getD_get _ a 0 (by rw [hlen]; exact ha)]
    simp only [rowL, List.getElem_map, List.getElem_range]
    unfold ent
    rw [if_neg (by omega), if_pos rfl, fd_one, Fd.one_mul]
    unfold ef entM
    rw [getD_get _ j 0 h2]
/-- The shards of data: what a row gives. -/
def shardS (k : Nat) (ds : List (List UInt8)) (a : Nat) : List UInt8 := mixS (rowL k a) ds
theorem shard_plain {k x : Nat} {ds : List (List UInt8)} (hl : ds.length = k) (hk : 1 ≤ k) (hx : ∀ t ∈ ds, t.length = x) (a : Nat) (ha : a < k) : shardS k ds a = ds.getD a [] := by
  have hD := gd_tabS hx
  rw [hl] at hD
  unfold shardS mixS
  rw [← tabS_length, pick_row hD hk a ha]
  rw [getD_get _ a [] (by rw [tabS_length]; omega), getD_get _ a [] (by omega)]
  simp only [tabS, List.getElem_map]
  exact toS_bN _
/-- What is decoded of unlike shards of data is the data. -/
theorem decode_data {k x : Nat} {ds : List (List UInt8)} {at' : List Nat} (hl : ds.length = k) (hk : 1 ≤ k ∧ k ≤ 255) (hx1 : 1 ≤ x) (hx : ∀ t ∈ ds, t.length = x) (ha : at'.length = k) (hn : at'.Nodup) (hb : ∀ a ∈ at', a < 256) :
    (invV (pickT k at')).map (fun r => mixS r (at'.map (shardS k ds))) = ds := by
  have hD := gd_tabS hx
  rw [hl] at hD
  have hM := gd_pick k at'
  rw [ha] at hM
  have hinv := cauchy_inv k at' ha hk.1 hk.2 hn hb
  have hT : tabS (at'.map (shardS k ds)) = mulT (pickT k at') (tabS ds) := by
    unfold tabS mulT pickT
    rw [List.map_map, List.map_map]
    refine List.map_congr_left (fun a _ => ?_)
    show bN (toS (mulSo (rowL k a) (tabS ds) ds.length)) = mulSo (rowL k a) (ds.map bN) (ds.map bN).length
    rw [bN_toS _ (mulSo_lt _ _ _), List.length_map]
    rfl
  rw [mixS_all, hT, mul_solve hM hk hx1 hinv hD]
  unfold tabS
  rw [List.map_map]
  conv => rhs; rw [← List.map_id ds]
  exact List.map_congr_left (fun t _ => toS_bN t)
/-- Data put in place by their numbers. -/
def putP (k : Nat) (xs : List (Nat × List UInt8)) : List (List UInt8) := xs.foldl (fun o x => o.set x.1 x.2) (List.replicate k [])
theorem putP_length (k : Nat) : ∀ (xs : List (Nat × List UInt8)) (o : List (List UInt8)), (xs.foldl (fun o x => o.set x.1 x.2) o).length = o.length
  | [], o => rfl
  | x :: xs, o => by
    show (xs.foldl (fun o x => o.set x.1 x.2) (o.set x.1 x.2)).length = o.length
    rw [putP_length k xs, List.length_set]
theorem putP_far : ∀ (xs : List (Nat × List UInt8)) (o : List (List UInt8)) (a : Nat), (∀ x ∈ xs, x.1 ≠ a) → (xs.foldl (fun o x => o.set x.1 x.2) o)[a]? = o[a]?
  | [], o, a, _ => rfl
  | x :: xs, o, a, h => by
    show (xs.foldl (fun o x => o.set x.1 x.2) (o.set x.1 x.2))[a]? = o[a]?
    rw [putP_far xs _ a (fun y hy => h y (by simp [hy])), List.getElem?_set_ne (h x (by simp))]
theorem putP_get : ∀ (xs : List (Nat × List UInt8)) (o : List (List UInt8)), (xs.map Prod.fst).Nodup → ∀ x ∈ xs, x.1 < o.length → (xs.foldl (fun o x => o.set x.1 x.2) o)[x.1]? = some x.2
  | [], _, _, x, h, _ => by simp at h
  | y :: xs, o, hn, x, h, hl => by
    rw [List.map_cons, List.nodup_cons] at hn
    show (xs.foldl (fun o x => o.set x.1 x.2) (o.set y.1 y.2))[x.1]? = some x.2
    rcases List.mem_cons.1 h with rfl | h
    · rw [putP_far xs _ _ (fun z hz e => hn.1 (by rw [← e]; exact List.mem_map.2 ⟨z, hz, rfl⟩))]
      simp [hl]
    · exact putP_get xs _ hn.2 x h (by rw [List.length_set]; exact hl)
/-- Plain shards, put in place, are what is decoded of them. -/
theorem decode_plain {k x : Nat} {xs : List (Nat × List UInt8)} (hl : xs.length = k) (hk : 1 ≤ k ∧ k ≤ 255) (hx1 : 1 ≤ x) (hx : ∀ t ∈ xs, t.2.length = x) (hn : (xs.map Prod.fst).Nodup) (hb : ∀ t ∈ xs, t.1 < k) :
    (invV (pickT k (xs.map Prod.fst))).map (fun r => mixS r (xs.map Prod.snd)) = putP k xs := by
  have hpl : (putP k xs).length = k := by unfold putP; rw [putP_length k, List.length_replicate]
  have hget : ∀ t ∈ xs, (putP k xs)[t.1]? = some t.2 := fun t ht => putP_get xs _ hn t ht (by rw [List.length_replicate]; exact hb t ht)
  -- each place is taken
  have hall : ∀ a, a < k → ∃ t ∈ xs, t.1 = a := fun a ha => by
    apply Classical.byContradiction
    intro hne
    have h1 := len_le_of_sub (xs.map Prod.fst) ((List.range k).erase a) hn (fun y hy => by
      obtain ⟨t, ht, rfl⟩ := List.mem_map.1 hy
      exact (List.mem_erase_of_ne (fun e => hne ⟨t, ht, e⟩)).2 (List.mem_range.2 (hb t ht)))
    rw [List.length_erase_of_mem (List.mem_range.2 ha), List.length_range, List.length_map] at h1
    omega
  have hlen : ∀ t ∈ putP k xs, t.length = x := fun t ht => by
    obtain ⟨a, ha, rfl⟩ := List.mem_iff_getElem.1 ht
    obtain ⟨u, hu, e⟩ := hall a (by omega)
    have := hget u hu
    rw [e, List.getElem?_eq_getElem ha] at this
    rw [Option.some.inj this]
    exact hx u hu
  have hd := decode_data (at' := xs.map Prod.fst) hpl hk hx1 hlen (by rw [List.length_map]; exact hl) hn (fun a ha => by
    obtain ⟨t, ht, rfl⟩ := List.mem_map.1 ha
    have := hb t ht
    omega)
  have hsh : (xs.map Prod.fst).map (shardS k (putP k xs)) = xs.map Prod.snd := by
    rw [List.map_map]
    refine List.map_congr_left (fun t ht => ?_)
    show shardS k (putP k xs) t.1 = t.2
    rw [shard_plain hpl hk.1 hlen t.1 (hb t ht), List.getD_eq_getElem?_getD, hget t ht]
    rfl
  rw [hsh] at hd
  exact hd
end Go.Proofs.YtnmlmpffmjhihaaGreat
