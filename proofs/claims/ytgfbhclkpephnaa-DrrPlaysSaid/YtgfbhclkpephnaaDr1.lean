/-
  Whose turn it is: queues as they lie in memory (chapter 17).
-/
import Derived.Test.YtgfbhclkpephnaaDrP
import Derived.Test.YtgfbhclkpephnaaBase2
namespace Go.Proofs.Ytgfbhclkpephnaa
open Go Go.RowKit
set_option linter.unusedVariables false
set_option linter.unusedSimpArgs false
set_option maxRecDepth 100000
set_option maxHeartbeats 1000000
/-- Where the queues lie, where their items, and the round. -/
structure DM where
  B : Int → Nat
  V : Int → Value
  rv : Value
def itC (l : List (Int × Int)) : List Value := l.flatMap fun x => [.int .i64 x.1, .int .i64 x.2]
theorem itC_len : ∀ l : List (Int × Int), (itC l).length = l.length * 2
  | [] => rfl
  | x :: l => by
    show ([_, _] ++ itC l).length = _
    rw [List.length_append, itC_len l]
    simp
    omega
def PQ.cells (q : PQ) (v : Value) : Array Value := #[.int .i64 q.id, .int .i64 q.weight, .int .i64 q.deficit, .bool q.served, v]
def ptrQ (m : DM) : Option PQ → Value
  | some q => .pointer (some ⟨m.B q.id, 0, none⟩)
  | none => .pointer none
def rdC (m : DM) (l : List Int) : List Value := l.map fun id => .pointer (some ⟨m.B id, 0, none⟩)
structure SchC (cs : Array Value) (S : PS) (m : DM) (n : Int) : Prop where
  z : cs.size = 259
  q : cs[0]? = some (.int .i64 S.quantum)
  p : ∀ i : Nat, i < 256 → cs[1 + i]? = some (ptrQ m (getQ (i : Int) S.qs))
  r : cs[257]? = some m.rv
  n : cs[258]? = some (.int .i64 n)
structure SchM (w : World) (base bs : Nat) (S : PS) (m : DM) (n : Int) : Prop where
  s : ∃ cs, Blk w bs cs 98 ∧ SchC cs S m n
  r : Seg w base 94 1 m.rv S.round.length (rdC m S.round)
  q : ∀ q ∈ S.qs, Blk w (m.B q.id) (q.cells (m.V q.id)) 110
  i : ∀ q ∈ S.qs, Seg w base 35 2 (m.V q.id) q.items.length (itC q.items)
  bs : base ≤ bs
  bb : ∀ q ∈ S.qs, base ≤ m.B q.id
  bi : ∀ q ∈ S.qs, ∀ q' ∈ S.qs, q.id ≠ q'.id → m.B q.id ≠ m.B q'.id
  vi : ∀ q ∈ S.qs, ∀ q' ∈ S.qs, q.id ≠ q'.id → ∀ g, (m.V q.id).ownBlock = some g → (m.V q'.id).ownBlock ≠ some g
theorem Blk.ne_ty {w : World} {b c : Nat} {cs cs' : Array Value} {t t' : TypeId} (h : Blk w b cs t) (h' : Blk w c cs' t') (hn : t ≠ t') : b ≠ c := by
  rintro rfl
  unfold Blk at h h'
  rw [h] at h'
  cases h'
  exact hn rfl
theorem Seg.heap {w : World} {base size n : Nat} {e : TypeId} {v : Value} {xs : List Value} (h : Seg w base e size v n xs) {g : Nat} (hg : v.ownBlock = some g) : ∃ cur, w.heap[g]? = some (.cells cur e (0, 0)) := by
  rcases h.2 with ⟨h0, _⟩ | ⟨g', off, cap, cur, hv, _, hh, _⟩
  · rw [h0] at hg; cases hg
  · rw [hv] at hg
    obtain rfl : g' = g := by simpa [Value.ownBlock] using hg
    exact ⟨cur, hh⟩
theorem Seg.ne_blk {w : World} {base size n : Nat} {e t : TypeId} {v : Value} {xs : List Value} {b : Nat} {cs : Array Value} (h : Seg w base e size v n xs) (hb : Blk w b cs t) (hn : e ≠ t) : ∀ g, v.ownBlock = some g → g ≠ b := fun g hg => by
  obtain ⟨cur, hh⟩ := h.heap hg
  exact Blk.ne_ty (cs := cur) hh hb hn
theorem Seg.ne_seg {w : World} {base base' size size' n n' : Nat} {e e' : TypeId} {v v' : Value} {xs xs' : List Value} (h : Seg w base e size v n xs) (h' : Seg w base' e' size' v' n' xs') (hn : e ≠ e') : ∀ g, v.ownBlock = some g → v'.ownBlock ≠ some g := fun g hg hg' => by
  obtain ⟨cur, hh⟩ := h.heap hg
  obtain ⟨cur', hh'⟩ := h'.heap hg'
  exact Blk.ne_ty (cs := cur) (cs' := cur') hh hh' hn rfl
def ownM (bs : Nat) (S : PS) (m : DM) : List Nat := bs :: (m.rv.ownBlock.toList ++ S.qs.flatMap fun q => m.B q.id :: (m.V q.id).ownBlock.toList)
theorem own_bs (bs : Nat) (S : PS) (m : DM) : bs ∈ ownM bs S m := List.mem_cons_self
theorem own_rv (bs : Nat) (S : PS) (m : DM) {x : Nat} (h : x ∈ m.rv.ownBlock.toList) : x ∈ ownM bs S m := List.mem_cons_of_mem _ (List.mem_append_left _ h)
theorem own_B (bs : Nat) {S : PS} {m : DM} {q : PQ} (h : q ∈ S.qs) : m.B q.id ∈ ownM bs S m := List.mem_cons_of_mem _ (List.mem_append_right _ (List.mem_flatMap.2 ⟨q, h, List.mem_cons_self⟩))
theorem own_V (bs : Nat) {S : PS} {m : DM} {q : PQ} (h : q ∈ S.qs) {x : Nat} (hx : x ∈ (m.V q.id).ownBlock.toList) : x ∈ ownM bs S m := List.mem_cons_of_mem _ (List.mem_append_right _ (List.mem_flatMap.2 ⟨q, h, List.mem_cons_of_mem _ hx⟩))
theorem own_cases {bs : Nat} {S : PS} {m : DM} {x : Nat} (h : x ∈ ownM bs S m) : x = bs ∨ x ∈ m.rv.ownBlock.toList ∨ ∃ q ∈ S.qs, x = m.B q.id ∨ x ∈ (m.V q.id).ownBlock.toList := by
  rcases List.mem_cons.1 h with h | h
  · exact .inl h
  · rcases List.mem_append.1 h with h | h
    · exact .inr (.inl h)
    · obtain ⟨q, hq, h⟩ := List.mem_flatMap.1 h
      exact .inr (.inr ⟨q, hq, List.mem_cons.1 h⟩)
section
variable {w w' : World} {base bs : Nat} {S : PS} {m : DM} {n : Int}
theorem SchM.blt (h : SchM w base bs S m n) : bs < w.heap.size := by
  obtain ⟨cs, hb, _⟩ := h.s
  exact hb.lt
theorem SchM.cells (h : SchM w base bs S m n) : w.cell? ⟨bs, 0, none⟩ = some (.int .i64 S.quantum) ∧ w.cell? ⟨bs, 257, none⟩ = some m.rv ∧ w.cell? ⟨bs, 258, none⟩ = some (.int .i64 n) ∧ (∀ o, w.frozen? ⟨bs, o, none⟩ = false) ∧ ∀ i : Nat, i < 256 → w.cell? ⟨bs, 1 + i, none⟩ = some (ptrQ m (getQ (i : Int) S.qs)) := by
  obtain ⟨cs, hb, hc⟩ := h.s
  obtain ⟨f1, f2, _⟩ := hb.facts
  exact ⟨(f1 0).trans hc.q, (f1 257).trans hc.r, (f1 258).trans hc.n, f2, fun i hi => (f1 (1 + i)).trans (hc.p i hi)⟩
theorem SchM.own_lt (h : SchM w base bs S m n) {x : Nat} (hx : x ∈ ownM bs S m) : base ≤ x ∧ x < w.heap.size := by
  rcases own_cases hx with rfl | hx | ⟨q, hq, rfl | hx⟩
  · exact ⟨h.bs, h.blt⟩
  · exact h.r.blk x (by simpa using hx)
  · exact ⟨h.bb q hq, (h.q q hq).lt⟩
  · exact (h.i q hq).blk x (by simpa using hx)
theorem SchM.chain (h : SchM w base bs S m n) (hb : Below w.heap.size w w') : SchM w' base bs S m n := by
  obtain ⟨cs, hs, hc⟩ := h.s
  exact ⟨⟨cs, hs.below hb hs.lt, hc⟩, h.r.chain hb, fun q hq => (h.q q hq).below hb (h.q q hq).lt, fun q hq => (h.i q hq).chain hb, h.bs, h.bb, h.bi, h.vi⟩
/-- What does not belong to it turns. -/
theorem SchM.keep (h : SchM w base bs S m n) {X : List Nat} (ho : Only X w w') (hx : ∀ x ∈ ownM bs S m, x ∉ X) : SchM w' base bs S m n := by
  obtain ⟨cs, hs, hc⟩ := h.s
  exact ⟨⟨cs, hs.only ho (hx _ (own_bs _ _ _)), hc⟩, h.r.only ho (fun g hg => hx _ (own_rv _ _ _ (by rw [hg]; simp))), fun q hq => (h.q q hq).only ho (hx _ (own_B _ hq)), fun q hq => (h.i q hq).only ho (fun g hg => hx _ (own_V _ hq (by rw [hg]; simp))), h.bs, h.bb, h.bi, h.vi⟩
def DM.setV (m : DM) (id : Int) (v : Value) : DM := { m with V := fun i => if i = id then v else m.V i }
theorem setV_self (m : DM) (id : Int) : m.setV id (m.V id) = m := by
  unfold DM.setV
  have : (fun i => if i = id then m.V id else m.V i) = m.V := funext fun i => by
    by_cases h : i = id
    · rw [if_pos h, h]
    · rw [if_neg h]
  rw [this]
theorem setV_at (m : DM) (id : Int) (v : Value) : (m.setV id v).V id = v := if_pos rfl
theorem setV_ne (m : DM) {id i : Int} (v : Value) (h : i ≠ id) : (m.setV id v).V i = m.V i := if_neg h
theorem ptrQ_putQ (m : DM) {q q' : PQ} {l : List PQ} (hid : q'.id = q.id) (hg : getQ q.id l = some q) (v : Value) (i : Int) : ptrQ (m.setV q.id v) (getQ i (putQ q' l)) = ptrQ m (getQ i l) := by
  rw [getQ_putQ (by rw [hid]; exact hg)]
  by_cases h : i = q'.id
  · rw [if_pos h, h, hid, hg]
    show Value.pointer (some ⟨m.B q'.id, 0, none⟩) = .pointer (some ⟨m.B q.id, 0, none⟩)
    rw [hid]
  · rw [if_neg h]
    cases getQ i l <;> rfl
/-- A queue turns, and its items. -/
theorem SchM.setItems (h : SchM w base bs S m n) {q q' : PQ} (hg : getQ q.id S.qs = some q) (hid : q'.id = q.id) {v : Value} (hb : Blk w' (m.B q.id) (q'.cells v) 110) (hs : Seg w' base 35 2 v q'.items.length (itC q'.items))
    (ho : Only (m.B q.id :: (m.V q.id).ownBlock.toList) w w') (hv : v.ownBlock = (m.V q.id).ownBlock ∨ ∀ g, v.ownBlock = some g → w.heap.size ≤ g) : SchM w' base bs { S with qs := putQ q' S.qs } (m.setV q.id v) n := by
  obtain ⟨hq, _⟩ := getQ_mem hg
  obtain ⟨cs, hcb, hc⟩ := h.s
  have hmem : ∀ f ∈ putQ q' S.qs, f = q' ∨ (f ∈ S.qs ∧ f.id ≠ q.id) := fun f hf => by
    rcases putQ_mem hf with ⟨rfl, _⟩ | ⟨h1, h2⟩
    · exact .inl rfl
    · exact .inr ⟨h1, by rw [← hid]; exact h2⟩
  have hnX : ∀ g, g ∈ m.B q.id :: (m.V q.id).ownBlock.toList → g = m.B q.id ∨ (m.V q.id).ownBlock = some g := fun g hg => by
    rcases List.mem_cons.1 hg with h | h
    · exact .inl h
    · exact .inr (by simpa using h)
  have keepB : ∀ {b : Nat} {cs : Array Value} {t : TypeId}, Blk w b cs t → b ≠ m.B q.id → t ≠ 35 → Blk w' b cs t := fun hb hne ht => hb.only ho (fun hm => by
    rcases hnX _ hm with e | e
    · exact hne e
    · obtain ⟨cur, hh⟩ := (h.i q hq).heap e
      exact Blk.ne_ty (cs := cur) hh hb (fun e => ht e.symm) rfl)
  refine ⟨⟨cs, keepB hcb (hcb.ne_ty (h.q q hq) (by decide)) (by decide), ⟨hc.z, hc.q, fun i hi => ?_, hc.r, hc.n⟩⟩, ?_, fun f hf => ?_, fun f hf => ?_, h.bs, fun f hf => ?_, fun f hf f' hf' hne => ?_, fun f hf f' hf' hne => ?_⟩
  · rw [hc.p i hi]
    show _ = some (ptrQ (m.setV q.id v) (getQ (i : Int) (putQ q' S.qs)))
    rw [ptrQ_putQ m hid hg]
  · exact h.r.only ho (fun g hgo hm => by
      rcases hnX _ hm with e | e
      · exact h.r.ne_blk (h.q q hq) (by decide) g hgo e
      · exact (h.r.ne_seg (h.i q hq) (by decide)) g hgo e)
  · rcases hmem f hf with rfl | ⟨h1, h2⟩
    · rw [hid, setV_at]
      exact hb
    · rw [setV_ne m v h2]
      exact keepB (h.q f h1) (h.bi f h1 q hq h2) (by decide)
  · rcases hmem f hf with rfl | ⟨h1, h2⟩
    · rw [hid, setV_at]
      exact hs
    · rw [setV_ne m v h2]
      exact (h.i f h1).only ho (fun g hgo hm => by
        rcases hnX _ hm with e | e
        · exact (h.i f h1).ne_blk (h.q q hq) (by decide) g hgo e
        · exact h.vi f h1 q hq h2 g hgo e)
  · rcases hmem f hf with rfl | ⟨h1, h2⟩
    · rw [hid]; exact h.bb q hq
    · exact h.bb f h1
  · show m.B f.id ≠ m.B f'.id
    rcases hmem f hf with rfl | ⟨h1, h2⟩ <;> rcases hmem f' hf' with rfl | ⟨h3, h4⟩
    · exact absurd rfl hne
    · rw [hid]; exact h.bi q hq f' h3 (fun e => h4 e.symm)
    · rw [hid]; exact h.bi f h1 q hq h2
    · exact h.bi f h1 f' h3 hne
  · have hold : ∀ f ∈ S.qs, f.id ≠ q.id → ∀ g, v.ownBlock = some g → (m.V f.id).ownBlock ≠ some g := fun f h1 h2 g hgo hgf => by
      rcases hv with e | e
      · exact h.vi q hq f h1 (fun x => h2 x.symm) g (e ▸ hgo) hgf
      · have := e g hgo
        have := ((h.i f h1).blk g hgf).2
        omega
    intro g hgo
    rcases hmem f hf with rfl | ⟨h1, h2⟩ <;> rcases hmem f' hf' with rfl | ⟨h3, h4⟩
    · exact absurd rfl hne
    · rw [hid, setV_at] at hgo
      rw [setV_ne m v h4]
      exact hold f' h3 h4 g hgo
    · rw [setV_ne m v h2] at hgo
      rw [hid, setV_at]
      exact fun hx => hold f h1 h2 g hx hgo
    · rw [setV_ne m v h2] at hgo
      rw [setV_ne m v h4]
      exact h.vi f h1 f' h3 hne g hgo
theorem SchM.setQ (h : SchM w base bs S m n) {q q' : PQ} (hg : getQ q.id S.qs = some q) (hid : q'.id = q.id) (hit : q'.items = q.items) (hb : Blk w' (m.B q.id) (q'.cells (m.V q.id)) 110) (ho : Only [m.B q.id] w w') : SchM w' base bs { S with qs := putQ q' S.qs } m n := by
  have hq := (getQ_mem hg).1
  have hs : Seg w' base 35 2 (m.V q.id) q'.items.length (itC q'.items) := by
    rw [hit]
    exact (h.i q hq).only ho (fun g hgo hm => by
      simp only [List.mem_singleton] at hm
      exact (h.i q hq).ne_blk (h.q q hq) (by decide) g hgo hm)
  have := h.setItems hg hid hb hs (ho.mono (fun x hx => .inl (by simp at hx; simp [hx]))) (.inl rfl)
  rwa [setV_self] at this
/-- The round turns. -/
theorem SchM.setRound {w1 : World} (h : SchM w base bs S m n) {rd : List Int} {rv : Value} (ho : Only m.rv.ownBlock.toList w w1) (hs : Seg w1 base 94 1 rv rd.length (rdC m rd)) : SchM (w1.setCell ⟨bs, 257, none⟩ rv) base bs { S with round := rd } { m with rv := rv } n := by
  obtain ⟨cs, hcb, hc⟩ := h.s
  have hr1 : ∀ {b : Nat} {cs : Array Value} {t : TypeId}, Blk w b cs t → t ≠ 94 → Blk w1 b cs t := fun hb ht => hb.only ho (fun hm => by
    obtain ⟨cur, hh⟩ := h.r.heap (g := _) (by simpa using hm)
    exact Blk.ne_ty (cs := cur) hh hb (fun e => ht e.symm) rfl)
  have hc1 := hr1 hcb (by decide)
  have hz := hc.z
  refine ⟨⟨_, hc1.setAt 257 rv rfl, ⟨by simpa using hc.z, ?_, fun i hi => ?_, ?_, ?_⟩⟩, ?_, fun f hf => ?_, fun f hf => ?_, h.bs, h.bb, h.bi, h.vi⟩
  · rw [Array.getElem?_setIfInBounds]
    rw [if_neg (by decide)]
    exact hc.q
  · rw [Array.getElem?_setIfInBounds, if_neg (by omega)]
    exact hc.p i hi
  · rw [Array.getElem?_setIfInBounds, if_pos rfl, if_pos (by omega)]
  · rw [Array.getElem?_setIfInBounds, if_neg (by decide)]
    exact hc.n
  · exact hs.setOther _ _ (hs.ne_blk hc1 (by decide))
  · have hf1 := hr1 (h.q f hf) (by decide)
    exact hf1.setOther _ _ (hf1.ne_ty hc1 (by decide))
  · have hf1 : Seg w1 base 35 2 (m.V f.id) f.items.length (itC f.items) := (h.i f hf).only ho (fun g hgo hm => (h.i f hf).ne_seg h.r (by decide) g hgo (by simpa using hm))
    exact hf1.setOther _ _ (hf1.ne_blk hc1 (by decide))
theorem SchM.setN (h : SchM w base bs S m n) (n' : Int) : SchM (w.setCell ⟨bs, 258, none⟩ (.int .i64 n')) base bs S m n' := by
  obtain ⟨cs, hcb, hc⟩ := h.s
  have hz := hc.z
  refine ⟨⟨_, hcb.setAt 258 _ rfl, ⟨by simpa using hc.z, ?_, fun i hi => ?_, ?_, ?_⟩⟩, ?_, fun f hf => ?_, fun f hf => ?_, h.bs, h.bb, h.bi, h.vi⟩
  · rw [Array.getElem?_setIfInBounds, if_neg (by decide)]
    exact hc.q
  · rw [Array.getElem?_setIfInBounds, if_neg (by omega)]
    exact hc.p i hi
  · rw [Array.getElem?_setIfInBounds, if_neg (by decide)]
    exact hc.r
  · rw [Array.getElem?_setIfInBounds, if_pos rfl, if_pos (by omega)]
  · exact h.r.setOther _ _ (h.r.ne_blk hcb (by decide))
  · exact (h.q f hf).setOther _ _ ((h.q f hf).ne_ty hcb (by decide))
  · exact (h.i f hf).setOther _ _ ((h.i f hf).ne_blk hcb (by decide))
end
/-- What a call leaves. -/
def DPost (base bs : Nat) (S : PS) (m : DM) (w : World) (S' : PS) (n' : Int) (w' : World) : Prop :=
  ∃ m', SchM w' base bs S' m' n' ∧ Only (ownM bs S m) w w' ∧ ∀ x ∈ ownM bs S' m', x ∈ ownM bs S m ∨ w.heap.size ≤ x
theorem DPost.refl {base bs : Nat} {S : PS} {m : DM} {w : World} {n : Int} (h : SchM w base bs S m n) : DPost base bs S m w S n w := ⟨m, h, Only.refl _ _, fun x hx => .inl hx⟩
theorem DPost.of_below {base bs : Nat} {S : PS} {m : DM} {w w' : World} {n : Int} (h : SchM w base bs S m n) (hb : Below w.heap.size w w') : DPost base bs S m w S n w' := ⟨m, h.chain hb, Only.of_below hb, fun x hx => .inl hx⟩
theorem own_putQ {bs : Nat} {S : PS} {m : DM} {q q' : PQ} {v : Value} (hid : q'.id = q.id) {x : Nat} (hq : q ∈ S.qs) (hx : x ∈ ownM bs { S with qs := putQ q' S.qs } (m.setV q.id v)) : x ∈ ownM bs S m ∨ v.ownBlock = some x := by
  rcases own_cases hx with e | hx | ⟨f, hf, hx⟩
  · exact .inl (e ▸ own_bs _ _ _)
  · exact .inl (own_rv _ _ _ hx)
  · rcases putQ_mem hf with ⟨ef, _⟩ | ⟨h1, h2⟩
    · rw [ef] at hx
      rcases hx with e | hx
      · exact .inl (by rw [e]; show m.B _ ∈ _; rw [hid]; exact own_B bs hq)
      · rw [hid, setV_at] at hx
        exact .inr (by simpa using hx)
    · rcases hx with e | hx
      · exact .inl (by rw [e]; exact own_B bs h1)
      · rw [setV_ne m v (by rw [← hid]; exact h2)] at hx
        exact .inl (own_V bs h1 hx)
theorem own_round {bs : Nat} {S : PS} {m : DM} {rd : List Int} {rv : Value} {x : Nat} (hx : x ∈ ownM bs { S with round := rd } { m with rv := rv }) : x ∈ ownM bs S m ∨ rv.ownBlock = some x := by
  rcases own_cases hx with e | hx | ⟨f, hf, hx⟩
  · exact .inl (e ▸ own_bs _ _ _)
  · exact .inr (by simpa using hx)
  · rcases hx with rfl | hx
    · exact .inl (own_B bs (m := m) hf)
    · exact .inl (own_V bs (m := m) hf hx)
end Go.Proofs.Ytgfbhclkpephnaa
