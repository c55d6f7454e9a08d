/-
  slices.Insert at []int: one contract for a slice of one's own (Seg).
-/
import Derived.Test.YtdjjienklfbalaaIns
namespace Go.Proofs.Ytdjjienklfbalaa
open Go.RowKit
set_option linter.unusedVariables false
set_option maxRecDepth 100000
set_option maxHeartbeats 1000000
theorem Blk.sets {b : Nat} {t : TypeId} : ∀ (vs : List Value) (o : Nat) (w : World) (cs : Array Value), Blk w b cs t → ∃ cs', Blk (w.setCells b o vs) b cs' t ∧ cs'.size = cs.size ∧ ∀ k, cs'[k]? = if o ≤ k ∧ k < o + vs.length ∧ k < cs.size then vs[k - o]? else cs[k]?
  | [], o, w, cs, h => ⟨cs, h, rfl, fun k => by rw [if_neg (by simp; omega)]⟩
  | v :: r, o, w, cs, h => by
    obtain ⟨cs', h1, h2, h3⟩ := Blk.sets r (o + 1) (w.setCell ⟨b, o, none⟩ v) _ (h.set o v)
    refine ⟨cs', h1, by rw [h2]; simp, fun k => ?_⟩
    rw [h3]
    simp only [List.length_cons, Array.size_setIfInBounds]
    by_cases c1 : o + 1 ≤ k ∧ k < o + 1 + r.length ∧ k < cs.size
    · rw [if_pos c1, if_pos (by omega), show k - o = (k - (o + 1)) + 1 by omega, List.getElem?_cons_succ]
    · rw [if_neg c1, Array.getElem?_setIfInBounds]
      by_cases c2 : o = k
      · subst c2
        by_cases c3 : o < cs.size
        · rw [if_pos rfl, if_pos c3, if_pos (by omega)]
          simp
        · rw [if_pos rfl, if_neg c3, if_neg (by omega)]
          rw [Array.getElem?_eq_none (by omega)]
      · rw [if_neg c2, if_neg (by omega)]
theorem Only.sets {S : List Nat} {a : World} {b : Nat} (hb : b ∈ S ∨ a.heap.size ≤ b) : ∀ (vs : List Value) (o : Nat) (w : World), Only S a w → Only S a (w.setCells b o vs)
  | [], o, w, h => h
  | v :: r, o, w, h => Only.sets hb r (o + 1) _ (h.setCell ⟨b, o, none⟩ v hb)
def insAt (xs : List Value) (i : Nat) (u : Value) : List Value := xs.take i ++ u :: xs.drop i
theorem insAt_get (xs : List Value) (i : Nat) (u : Value) (hi : i ≤ xs.length) (k : Nat) : (insAt xs i u)[k]? = if k < i then xs[k]? else if k = i then some u else xs[k - 1]? := by
  unfold insAt
  have hl : (xs.take i).length = i := by simp; omega
  by_cases h1 : k < i
  · rw [if_pos h1, List.getElem?_append_left (by omega), List.getElem?_take_of_lt h1]
  · rw [if_neg h1, List.getElem?_append_right (by omega), hl]
    by_cases h2 : k = i
    · rw [if_pos h2, h2]; simp
    · rw [if_neg h2, show k - i = (k - i - 1) + 1 by omega, List.getElem?_cons_succ, List.getElem?_drop]
      congr 1
      omega
theorem insAt_length (xs : List Value) (i : Nat) (u : Value) (hi : i ≤ xs.length) : (insAt xs i u).length = xs.length + 1 := by
  unfold insAt; simp; omega
theorem Seg.of_get {w : World} {base : Nat} {t : TypeId} {g off cap n : Nat} {cur : Array Value} {xs : List Value} (hb : base ≤ g) (hk : Blk w g cur t) (hn : n ≤ cap) (hc : cap ≤ maxLen) (hs : off + cap ≤ cur.size) (hl : xs.length = n) (hx : ∀ k, k < n → cur[off + k]? = xs[k]?) :
    Seg w base t 1 (.slice (some ⟨g, off, none⟩) n cap) n xs := by
  refine ⟨by omega, .inr ⟨g, off, cap, cur, rfl, hb, hk, hn, hc, by omega, ?_⟩⟩
  apply List.ext_getElem?
  intro k
  rw [Nat.mul_one]
  by_cases h : k < n
  · rw [List.getElem?_take_of_lt h, List.getElem?_drop, Array.getElem?_toList]
    exact hx k h
  · rw [List.getElem?_eq_none (by simp; omega), List.getElem?_eq_none (by omega)]
theorem ins_any (base : Nat) (v : Value) (n i : Nat) (xs : List Value) (u : Value) (vb : Nat) (w : World) (hs : Seg w base 3 1 v n xs) (h1 : ∀ x ∈ xs, x.oneCell' = true) (hu : u.oneCell' = true) (hvb : Blk w vb #[u] 3) (hne : v.ownBlock ≠ some vb) (hi : i ≤ n) (hn : n < 100000) (hbase : base ≤ w.heap.size) :
    Calls Try.prog 106 #[v, .int .i64 i, .slice (some ⟨vb, 0, none⟩) 1 1] w fun e w' => ∃ a cap, e = .returned (.slice a (n + 1) cap) ∧ Seg w' base 3 1 (.slice a (n + 1) cap) (n + 1) (insAt xs i u) ∧ Only v.ownBlock.toList w w' ∧ ∀ q, (Value.slice a (n + 1) cap).ownBlock = some q → v.ownBlock = some q ∨ w.heap.size ≤ q := by
  have hxl : xs.length = n := by have := hs.1; omega
  have hvs : ∀ j x, [u][j]? = some x → w.cell? ⟨vb, 0 + j, none⟩ = some x := fun j x hx => by
    rw [hvb.facts.1]
    match j, hx with
    | 0, hx => simpa using hx
  have h1v : ∀ x ∈ [u], x.oneCell' = true := fun x hx => by
    rw [List.mem_singleton.1 hx]; exact hu
  have hbig : (n + 1) * 8 ≤ 140737488355328 := by omega
  have hml : n + 1 ≤ maxLen := by unfold maxLen; omega
  have endg : ∀ (b : Option Addr) (c : Nat), v = .slice b n c → n ≤ c → c < n + 1 → i = n → (b = none → n = 0) → (∀ a, b = some a → ∀ j x, xs[j]? = some x → w.cell? (a.add j) = some x) →
      Calls Try.prog 106 #[v, .int .i64 i, .slice (some ⟨vb, 0, none⟩) 1 1] w fun e w' => ∃ a cap, e = .returned (.slice a (n + 1) cap) ∧ Seg w' base 3 1 (.slice a (n + 1) cap) (n + 1) (insAt xs i u) ∧ Only v.ownBlock.toList w w' ∧ ∀ q, (Value.slice a (n + 1) cap).ownBlock = some q → v.ownBlock = some q ∨ w.heap.size ≤ q := by
    intro b c hv hnc hr hin hnil hcs
    subst hin
    have h := Any2.slices_Insert_int_end_grow insLays b i c vb 0 1 1 xs [u] w (by omega) hnc hr hbig hxl rfl hnil hcs hvs h1v
    rw [show insRen.t 3 = 3 from rfl] at h
    rw [hv]
    refine h.mono ?_
    rintro e w' ⟨rfl, rfl⟩
    have hge := grownCap_ge w (i + 1) c 3
    have hcm := grownCap_le_maxLen w (i + 1) c 3 hml
    refine ⟨_, _, rfl, Seg.of_get hbase (Blk.new w.drew _ _) hge hcm (by simp [size_zeroCells, hxl, Value.cells]; omega) (by rw [insAt_length _ _ _ (by omega)]; omega) ?_, Only.alloc (Only.drew (Only.refl _ _)) _, fun q hq => .inr (by simp [Value.ownBlock] at hq; omega)⟩
    intro k hk
    rw [insAt_get _ _ _ (by omega), Nat.zero_add, Array.getElem?_append_left (by simp [hxl]; omega)]
    by_cases h2 : k < i
    · rw [if_pos h2]
      simp [List.getElem?_append_left, hxl, h2]
    · obtain rfl : k = i := by omega
      rw [if_neg h2, if_pos rfl]
      simp [hxl]
  rcases hs.2 with ⟨hv, h0⟩ | ⟨g, off, cap, cur, hv, hbg, hg, hnc, hcm, hsz, hcx⟩
  · subst h0
    exact endg none 0 hv (Nat.le_refl _) (by omega) (by omega) (fun _ => rfl) (fun a h => by cases h)
  · have kg : Blk w g cur 3 := hg
    have hgv : g ≠ vb := fun e => hne (by rw [hv, e]; rfl)
    subst hv
    have hcur : ∀ k, k < n → cur[off + k]? = xs[k]? := fun k hk => by
      have := hs.at k (by omega)
      rw [kg.facts.1] at this
      exact this
    have hcs : ∀ j x, xs[j]? = some x → w.cell? ⟨g, off + j, none⟩ = some x := fun j x hx => by
      have hj : j < n := by rw [← hxl]; exact (List.getElem?_eq_some_iff.1 hx).1
      rw [hs.at j (by omega), hx]
    have hmem : g ∈ (Value.ownBlock (.slice (some ⟨g, off, none⟩) n cap)).toList := by simp [Value.ownBlock]
    by_cases hin : i = n
    · by_cases hroom : n + 1 ≤ cap
      · have h := Any2.slices_Insert_int_end_room insLays g off n cap vb 0 1 1 [u] w (by omega) hroom (by unfold maxLen at hcm; omega) rfl (fun j hj => by rw [kg.facts.1, Array.getElem?_eq_getElem (by omega)]; rfl) (fun j hj => kg.facts.2.1 _) hvs h1v
        subst hin
        refine h.mono ?_
        rintro e w' ⟨rfl, rfl⟩
        obtain ⟨c2, k2, s2, g2⟩ := Blk.sets [u] (off + i) w cur kg
        refine ⟨_, _, rfl, Seg.of_get hbg k2 hroom hcm (by omega) (by rw [insAt_length _ _ _ (by omega)]; omega) ?_, Only.sets (.inl hmem) _ _ _ (Only.refl _ _), fun q hq => .inl (by simpa [Value.ownBlock] using hq)⟩
        intro k hk
        rw [g2, insAt_get _ _ _ (by omega)]
        by_cases h2 : k < i
        · rw [if_pos h2, if_neg (by omega)]; exact hcur k h2
        · obtain rfl : k = i := by omega
          rw [if_neg h2, if_pos rfl, if_pos (by simp; omega)]
          simp
      · exact endg _ cap rfl hnc (by omega) hin (fun h => by cases h) (fun a h => by injection h with h; subst h; intro j x hx; rw [Addr.add_lit]; exact hcs j x hx)
    · have hlt : i < n := by omega
      by_cases hroom : n + 1 ≤ cap
      · have h := Any2.slices_Insert_int_shift insLays g off n cap i vb 0 1 1 xs [u] w hlt (by omega) hroom (by unfold maxLen at hcm; omega) (fun e => hgv e.symm) hxl rfl hcs (fun j hj => by rw [kg.facts.1, Array.getElem?_eq_getElem (by omega)]; rfl) (fun j hj => kg.facts.2.1 _) hvs h1 h1v
          3 3 1 cur.size (by have := hvb; unfold Blk at this; simp [World.shape?, this]) (by have := kg; unfold Blk at this; simp [World.shape?, this]) (by omega) (hvb.facts.2.1 _) (hvb.facts.2.1 _)
        refine h.mono ?_
        rintro e w' ⟨rfl, rfl⟩
        obtain ⟨c1, k1, s1, g1⟩ := Blk.sets (xs.drop i) (off + (i + 1)) w.drew cur kg
        obtain ⟨c2, k2, s2, g2⟩ := Blk.sets [u] (off + i) _ c1 k1
        refine ⟨_, _, rfl, Seg.of_get hbg k2 hroom hcm (by omega) (by rw [insAt_length _ _ _ (by omega)]; omega) ?_, Only.sets (.inl hmem) _ _ _ (Only.sets (.inl hmem) _ _ _ (Only.drew (Only.refl _ _))), fun q hq => .inl (by simpa [Value.ownBlock] using hq)⟩
        intro k hk
        rw [g2, g1, insAt_get _ _ _ (by omega)]
        by_cases h2 : k < i
        · rw [if_pos h2, if_neg (by omega), if_neg (by omega)]; exact hcur k (by omega)
        · by_cases h3 : k = i
          · subst h3
            rw [if_neg h2, if_pos rfl, if_pos (by simp; omega)]
            simp
          · rw [if_neg h2, if_neg h3, if_neg (by simp; omega), if_pos (by simp; omega), List.getElem?_drop]
            congr 1
            omega
      · have h := Any2.slices_Insert_int_grow insLays g off n cap i vb 0 1 1 xs [u] w hlt (by omega) hnc (by omega) hbig hxl rfl hcs hvs h1 h1v
        rw [show insRen.t 3 = 3 from rfl] at h
        refine h.mono ?_
        rintro e w' ⟨rfl, rfl⟩
        have hge := grownCap_ge w (n + 1) cap 3
        have hcm2 := grownCap_le_maxLen w (n + 1) cap 3 hml
        generalize hC0 : ((xs.take i).toArray ++ Builtin.zeroCells (Value.int .i64 0).cells (n + 1 - i) ++ Builtin.zeroCells (Value.int .i64 0).cells (grownCap w (n + 1) cap 3 - (n + 1))) = C0
        have hCs : C0.size = grownCap w (n + 1) cap 3 := by
          rw [← hC0]
          simp [size_zeroCells, hxl, Value.cells]
          omega
        have hCg : ∀ k, k < i → C0[k]? = xs[k]? := fun k hk => by
          rw [← hC0, Array.append_assoc, Array.getElem?_append_left (by simp [hxl]; omega)]
          simp [hk]
        obtain ⟨c1, k1, s1, g1⟩ := Blk.sets [u] i (w.alloc (.cells C0 3)).drew C0 (Blk.new w C0 3)
        obtain ⟨c2, k2, s2, g2⟩ := Blk.sets (xs.drop i) (i + 1) _ c1 k1.drew
        refine ⟨_, _, rfl, Seg.of_get hbase k2 hge hcm2 (by omega) (by rw [insAt_length _ _ _ (by omega)]; omega) ?_, Only.sets (.inr (Nat.le_refl _)) _ _ _ (Only.drew (Only.sets (.inr (Nat.le_refl _)) _ _ _ (Only.drew (Only.alloc (Only.refl _ _) _)))), fun q hq => .inr (by simp [Value.ownBlock] at hq; omega)⟩
        intro k hk
        rw [Nat.zero_add, g2, g1, insAt_get _ _ _ (by omega)]
        by_cases h2 : k < i
        · rw [if_pos h2, if_neg (by omega), if_neg (by omega)]; exact hCg k h2
        · by_cases h3 : k = i
          · subst h3
            rw [if_neg h2, if_pos rfl, if_neg (by omega), if_pos (by simp; omega)]
            simp
          · rw [if_neg h2, if_neg h3, if_pos (by simp; omega), List.getElem?_drop]
            congr 1
            omega
end Go.Proofs.Ytdjjienklfbalaa
