/-
  Any unlike rows of the document's table have an inverse. Plain.
-/
import Derived.Test.YtibilabhokkhmaaLinC
import Derived.Test.YtibilabhokkhmaaCauchy3
namespace Go.Proofs.Ytibilabhokkhmaa
set_option linter.unusedVariables false
/-- The sum over a list. -/
def ls : List Nat → (Nat → Fd) → Fd
  | [], _ => 0
  | y :: ys, f => f y + ls ys f
theorem ls_congr : ∀ {ys : List Nat} {f g : Nat → Fd}, (∀ y ∈ ys, f y = g y) → ls ys f = ls ys g
  | [], _, _, _ => rfl
  | y :: ys, f, g, h => by
    show f y + ls ys f = g y + ls ys g
    rw [h y (by simp), ls_congr (fun z hz => h z (by simp [hz]))]
theorem ls_add : ∀ (ys : List Nat) (f g : Nat → Fd), ls ys (fun i => f i + g i) = ls ys f + ls ys g
  | [], _, _ => (Fd.add_zero 0).symm
  | y :: ys, f, g => by
    show (f y + g y) + ls ys (fun i => f i + g i) = (f y + ls ys f) + (g y + ls ys g)
    rw [ls_add ys f g]
    ac_rfl
theorem ls_mul : ∀ (ys : List Nat) (c : Fd) (f : Nat → Fd), c * ls ys f = ls ys (fun i => c * f i)
  | [], c, _ => Fd.mul_zero c
  | y :: ys, c, f => by
    show c * (f y + ls ys f) = c * f y + ls ys (fun i => c * f i)
    rw [Fd.mul_add, ls_mul ys c f]
theorem ls_zero : ∀ {ys : List Nat} {f : Nat → Fd}, (∀ y ∈ ys, f y = 0) → ls ys f = 0
  | [], _, _ => rfl
  | y :: ys, f, h => by
    show f y + ls ys f = 0
    rw [h y (by simp), ls_zero (fun z hz => h z (by simp [hz])), Fd.add_zero]
theorem ls_append : ∀ (xs ys : List Nat) (f : Nat → Fd), ls (xs ++ ys) f = ls xs f + ls ys f
  | [], ys, f => (Fd.zero_add _).symm
  | x :: xs, ys, f => by
    show f x + ls (xs ++ ys) f = (f x + ls xs f) + ls ys f
    rw [ls_append xs ys f, Fd.add_assoc]
theorem sm_ls : ∀ (n : Nat) (f : Nat → Fd), sm n f = ls (List.range n) f
  | 0, _ => rfl
  | n + 1, f => by
    rw [List.range_succ, ls_append, ← sm_ls n f]
    show sm n f + f n = sm n f + (f n + 0)
    rw [Fd.add_zero]
theorem ls_filter : ∀ (ys : List Nat) (p : Nat → Bool) (f : Nat → Fd), (∀ y ∈ ys, p y = false → f y = 0) → ls ys f = ls (ys.filter p) f
  | [], _, _, _ => rfl
  | y :: ys, p, f, h => by
    have ih := ls_filter ys p f (fun z hz => h z (by simp [hz]))
    rw [List.filter_cons]
    cases hp : p y with
    | true =>
      show f y + ls ys f = f y + ls (ys.filter p) f
      rw [ih]
    | false =>
      show f y + ls ys f = ls (ys.filter p) f
      rw [h y (by simp) hp, Fd.zero_add, ih]
theorem fd_ne {x y : Nat} (hx : x < 256) (hy : y < 256) (h : x ≠ y) : fd x + fd y ≠ 0 := fun e => h (fd_inj hx hy (Fd.add_cancel e))
theorem term_eq (p q s v : Fd) (hp : p ≠ 0) (hq : q ≠ 0) : (p + s) * (v * p.inv) + (q + s) * (v * q.inv) = (p + q) * (v * s * q.inv * p.inv) := by
  have e1 : (p + s) * (v * p.inv) = v + s * v * p.inv := by
    rw [Fd.add_mul]
    congr 1
    · calc p * (v * p.inv) = v * (p * p.inv) := by ac_rfl
        _ = v := by rw [Fd.mul_inv hp, Fd.mul_one]
    · ac_rfl
  have e2 : (q + s) * (v * q.inv) = v + s * v * q.inv := by
    rw [Fd.add_mul]
    congr 1
    · calc q * (v * q.inv) = v * (q * q.inv) := by ac_rfl
        _ = v := by rw [Fd.mul_inv hq, Fd.mul_one]
    · ac_rfl
  have e3 : (p + q) * (v * s * q.inv * p.inv) = s * v * q.inv + s * v * p.inv := by
    rw [Fd.add_mul]
    congr 1
    · calc p * (v * s * q.inv * p.inv) = (s * v * q.inv) * (p * p.inv) := by ac_rfl
        _ = _ := by rw [Fd.mul_inv hp, Fd.mul_one]
    · calc q * (v * s * q.inv * p.inv) = (s * v * p.inv) * (q * q.inv) := by ac_rfl
        _ = _ := by rw [Fd.mul_inv hq, Fd.mul_one]
  rw [e1, e2, e3]
  calc (v + s * v * p.inv) + (v + s * v * q.inv) = (v + v) + (s * v * q.inv + s * v * p.inv) := by ac_rfl
    _ = _ := by rw [Fd.add_self, Fd.zero_add]
/-- Cauchy's table has no kernel. -/
theorem cauchy_zero : ∀ (ys xs : List Nat) (v : Nat → Fd), ys.length ≤ xs.length → xs.Nodup → ys.Nodup → (∀ x ∈ xs, x < 256) → (∀ y ∈ ys, y < 256) → (∀ x ∈ xs, ∀ y ∈ ys, x ≠ y) →
    (∀ x ∈ xs, ls ys (fun y => v y * (fd x + fd y).inv) = 0) → ∀ y ∈ ys, v y = 0
  | [], _, _, _, _, _, _, _, _, _ => by simp
  | y0 :: ys, [], _, h, _, _, _, _, _, _ => by simp at h
  | y0 :: ys, x0 :: xs, v, hl, hnx, hny, hx, hy, hne, h0 => by
    have hx0 : x0 < 256 := hx x0 (by simp)
    have hy0 : y0 < 256 := hy y0 (by simp)
    have q0 : fd x0 + fd y0 ≠ 0 := fd_ne hx0 hy0 (hne x0 (by simp) y0 (by simp))
    rw [List.nodup_cons] at hnx hny
    have hys : ∀ y ∈ ys, v y = 0 := by
      have ih := cauchy_zero ys xs (fun y => v y * (fd y + fd y0) * (fd x0 + fd y).inv) (by simpa using hl) hnx.2 hny.2 (fun x h => hx x (by simp [h])) (fun y h => hy y (by simp [h]))
        (fun x h y h' => hne x (by simp [h]) y (by simp [h'])) (fun x hxm => by
          have hxl := hx x (by simp [hxm])
          have hxx : fd x + fd x0 ≠ 0 := fd_ne hxl hx0 (fun e => hnx.1 (by rw [← e]; exact hxm))
          have p0 : fd x + fd y0 ≠ 0 := fd_ne hxl hy0 (hne x (by simp [hxm]) y0 (by simp))
          refine Fd.eq_zero_of_mul (a := fd x + fd x0) ?_ hxx
          have hA : (fd x + fd y0) * ls (y0 :: ys) (fun y => v y * (fd x + fd y).inv) = 0 := by rw [h0 x (by simp [hxm]), Fd.mul_zero]
          have hB : (fd x0 + fd y0) * ls (y0 :: ys) (fun y => v y * (fd x0 + fd y).inv) = 0 := by rw [h0 x0 (by simp), Fd.mul_zero]
          have hA' : v y0 + ls ys (fun y => (fd x + fd y0) * (v y * (fd x + fd y).inv)) = 0 := by
            rw [← hA]
            show _ = (fd x + fd y0) * (v y0 * (fd x + fd y0).inv + ls ys (fun y => v y * (fd x + fd y).inv))
            rw [Fd.mul_add, ls_mul]
            congr 1
            calc v y0 = v y0 * ((fd x + fd y0) * (fd x + fd y0).inv) := by rw [Fd.mul_inv p0, Fd.mul_one]
              _ = _ := by ac_rfl
          have hB' : v y0 + ls ys (fun y => (fd x0 + fd y0) * (v y * (fd x0 + fd y).inv)) = 0 := by
            rw [← hB]
            show _ = (fd x0 + fd y0) * (v y0 * (fd x0 + fd y0).inv + ls ys (fun y => v y * (fd x0 + fd y).inv))
            rw [Fd.mul_add, ls_mul]
            congr 1
            calc v y0 = v y0 * ((fd x0 + fd y0) * (fd x0 + fd y0).inv) := by rw [Fd.mul_inv q0, Fd.mul_one]
              _ = _ := by ac_rfl
          have hC : ls ys (fun y => (fd x + fd y0) * (v y * (fd x + fd y).inv)) + ls ys (fun y => (fd x0 + fd y0) * (v y * (fd x0 + fd y).inv)) = 0 := by
            have : (v y0 + ls ys (fun y => (fd x + fd y0) * (v y * (fd x + fd y).inv))) + (v y0 + ls ys (fun y => (fd x0 + fd y0) * (v y * (fd x0 + fd y).inv))) = 0 := by rw [hA', hB', Fd.add_zero]
            rw [← this]
            calc _ = (v y0 + v y0) + (ls ys (fun y => (fd x + fd y0) * (v y * (fd x + fd y).inv)) + ls ys (fun y => (fd x0 + fd y0) * (v y * (fd x0 + fd y).inv))) := by rw [Fd.add_self, Fd.zero_add]
              _ = _ := by ac_rfl
          rw [← hC, ← ls_add, ls_mul]
          refine ls_congr (fun y hym => ?_)
          have hyl := hy y (by simp [hym])
          have hp : fd x + fd y ≠ 0 := fd_ne hxl hyl (hne x (by simp [hxm]) y (by simp [hym]))
          have hq : fd x0 + fd y ≠ 0 := fd_ne hx0 hyl (hne x0 (by simp) y (by simp [hym]))
          have ht := term_eq (fd x + fd y) (fd x0 + fd y) (fd y + fd y0) (v y) hp hq
          have z1 : (fd x + fd y) + (fd y + fd y0) = fd x + fd y0 := by
            calc _ = fd x + (fd y + fd y) + fd y0 := by ac_rfl
              _ = _ := by rw [Fd.add_self, Fd.add_zero]
          have z2 : (fd x0 + fd y) + (fd y + fd y0) = fd x0 + fd y0 := by
            calc _ = fd x0 + (fd y + fd y) + fd y0 := by ac_rfl
              _ = _ := by rw [Fd.add_self, Fd.add_zero]
          have z3 : (fd x + fd y) + (fd x0 + fd y) = fd x + fd x0 := by
            calc _ = fd x + (fd y + fd y) + fd x0 := by ac_rfl
              _ = _ := by rw [Fd.add_self, Fd.add_zero]
          rw [z1, z2, z3] at ht
          exact ht.symm)
      intro y hym
      have hyl := hy y (by simp [hym])
      have h1 : fd y + fd y0 ≠ 0 := fd_ne hyl hy0 (fun e => hny.1 (by rw [← e]; exact hym))
      have hq : fd x0 + fd y ≠ 0 := fd_ne hx0 hyl (hne x0 (by simp) y (by simp [hym]))
      have e := ih y hym
      refine Fd.eq_zero_of_mul (a := (fd y + fd y0) * (fd x0 + fd y).inv) ?_ (Fd.mul_ne h1 (Fd.inv_ne hq))
      rw [← e]
      show _ = v y * (fd y + fd y0) * (fd x0 + fd y).inv
      ac_rfl
    intro y hym
    rcases List.mem_cons.1 hym with rfl | hym
    · have e := h0 x0 (by simp)
      have e' : v y * (fd x0 + fd y).inv + ls ys (fun z => v z * (fd x0 + fd z).inv) = 0 := e
      rw [ls_zero (fun z hz => by rw [hys z hz, Fd.zero_mul]), Fd.add_zero, Fd.mul_comm] at e'
      exact Fd.eq_zero_of_mul e' (Fd.inv_ne q0)
    · exact hys y hym
theorem len_le_of_sub : ∀ (l1 l2 : List Nat), l1.Nodup → (∀ x ∈ l1, x ∈ l2) → l1.length ≤ l2.length
  | [], _, _, _ => Nat.zero_le _
  | x :: l1, l2, hn, hs => by
    rw [List.nodup_cons] at hn
    have hx : x ∈ l2 := hs x (by simp)
    have := len_le_of_sub l1 (l2.erase x) hn.2 (fun y hy => (List.mem_erase_of_ne (fun e => hn.1 (by rw [← e]; exact hy))).2 (hs y (by simp [hy])))
    rw [List.length_erase_of_mem hx] at this
    have hp : 0 < l2.length := List.length_pos_of_mem hx
    simp only [List.length_cons]
    omega
theorem len_split (p : Nat → Bool) : ∀ l : List Nat, (l.filter p).length + (l.filter (fun x => !p x)).length = l.length
  | [] => rfl
  | x :: l => by
    have := len_split p l
    cases h : p x <;> simp [h] <;> omega
def pickT (k : Nat) (at' : List Nat) : Tab := at'.map (rowL k)
theorem gd_pick (k : Nat) (at' : List Nat) : Gd at'.length k (pickT k at') := by
  refine ⟨by simp [pickT], fun i hi => by simp [pickT, rowL_length], fun i hi x hx => ?_⟩
  simp only [pickT, List.getElem_map, rowL, List.mem_map] at hx
  obtain ⟨j, _, rfl⟩ := hx
  exact ent_lt _ _ _
theorem ef_pick (k : Nat) (at' : List Nat) (i j : Nat) (hi : i < at'.length) (hj : j < k) : ef (pickT k at') i j = fd (ent k at'[i] j) := by
  unfold ef
  rw [entM_get _ i j (by simpa [pickT] using hi) (by simp [pickT, rowL_length, hj])]
  simp [pickT, rowL]
/-- Any unlike rows have an inverse. -/
theorem cauchy_inv (k : Nat) (at' : List Nat) (hk : at'.length = k) (hk1 : 1 ≤ k) (hk2 : k ≤ 255) (hn : at'.Nodup) (hb : ∀ a ∈ at', a < 256) : invE (pickT k at') = 0 := by
  have hG := gd_pick k at'
  rw [hk] at hG
  refine inv_of_rank hG ⟨hk1, hk2⟩ ?_
  have hr := rank_red hG (gd_rep k)
  generalize (redSo (pickT k at') (List.replicate k []) k).1 = r at hr
  rcases Nat.lt_or_ge r k with hlt | hge
  · exfalso
    obtain ⟨v, ⟨j0, hj0, hv0⟩, hz⟩ := hr.kernel hlt
    -- the plain rows' places are none
    have hplain : ∀ a ∈ at', a < k → v a = 0 := fun a ha hak => by
      obtain ⟨i, hi, rfl⟩ := List.mem_iff_getElem.1 ha
      have := hz i (by omega)
      rw [sm_one (k := at'[i]) hak (fun j hj hne => by
        rw [ef_pick k at' i j hi hj]
        unfold ent
        rw [if_neg (by omega), if_neg (fun e => hne e.symm)]
        exact Fd.zero_mul _), ef_pick k at' i _ hi hak] at this
      unfold ent at this
      rw [if_neg (by omega), if_pos rfl, fd_one, Fd.one_mul] at this
      exact this
    have hcz := cauchy_zero ((List.range k).filter (fun j => !decide (j ∈ at'))) (at'.filter (fun a => !decide (a < k))) v ?_ (hn.filter _) (List.nodup_range.filter _) ?_ ?_ ?_ ?_
    · by_cases hm : j0 ∈ at'
      · exact hv0 (hplain j0 hm hj0)
      · exact hv0 (hcz j0 (by simp [hj0, hm]))
    · have h1 := len_split (fun j => decide (j ∈ at')) (List.range k)
      have h2 := len_split (fun a => decide (a < k)) at'
      have h3 := len_le_of_sub (at'.filter (fun a => decide (a < k))) ((List.range k).filter (fun j => decide (j ∈ at'))) (hn.filter _) (fun x hx => by
        simp only [List.mem_filter, decide_eq_true_eq, List.mem_range] at hx ⊢
        exact ⟨hx.2, hx.1⟩)
      rw [List.length_range] at h1
      omega
    · intro x hx
      exact hb x (List.mem_filter.1 hx).1
    · intro y hy
      have := (List.mem_filter.1 hy).1
      rw [List.mem_range] at this
      omega
    · intro x hx y hy e
      subst e
      have h1 := (List.mem_filter.1 hx).1
      have h2 := (List.mem_filter.1 hy).2
      simp [h1] at h2
    · intro x hx
      obtain ⟨hxa, hxk⟩ := List.mem_filter.1 hx
      obtain ⟨i, hi, rfl⟩ := List.mem_iff_getElem.1 hxa
      have hka : k ≤ at'[i] := by simpa using hxk
      have := hz i (by omega)
      rw [sm_ls, ls_filter (List.range k) (fun j => !decide (j ∈ at')) _ (fun j hj hp => by
        have hm : j ∈ at' := by simpa using hp
        rw [hplain j hm (List.mem_range.1 hj), Fd.mul_zero])] at this
      rw [← this]
      refine ls_congr (fun j hj => ?_)
      obtain ⟨hjr, hjn⟩ := List.mem_filter.1 hj
      have hjk := List.mem_range.1 hjr
      have hai : at'[i] < 256 := hb _ hxa
      have hne : at'[i] ≠ j := by omega
      rw [ef_pick k at' i j hi hjk]
      unfold ent
      rw [if_pos hka, Fd.mul_comm]
      congr 1
      apply Fd.eq
      have hx1 : at'[i] ^^^ j < 256 := Nat.xor_lt_two_pow (n := 8) hai (by omega)
      have hx0 : 0 < at'[i] ^^^ j := Nat.pos_of_ne_zero (fun e => fd_ne hai (show j < 256 by omega) hne (by rw [← fd_xor, e]; rfl))
      rw [fd_v (gi_facts _ hx0 hx1).2.1]
      show gi (fd at'[i] + fd j).v = _
      rw [← fd_xor, fd_v hx1]
  · have : r = k := Nat.le_antisymm hr.le_rows hge
    rw [← this]
    rw [this] at hr ⊢
    exact hr
end Go.Proofs.Ytibilabhokkhmaa
