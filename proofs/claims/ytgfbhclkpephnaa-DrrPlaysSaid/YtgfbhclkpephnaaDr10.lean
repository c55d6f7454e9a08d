/-
  Whose turn it is: all calls, beside blocks that are not the scheduler's (chapter 17).
-/
import Derived.Test.YtgfbhclkpephnaaDr9
namespace Go.Proofs.Ytgfbhclkpephnaa
open Go Go.RowKit
set_option linter.unusedVariables false
set_option linter.unusedSimpArgs false
set_option maxRecDepth 100000
set_option maxHeartbeats 1000000
/-! The next item, reckoned. -/
def frontQ (S : PS) : Option (PQ × List Int × (Int × Int) × List (Int × Int)) := match S.round with
  | [] => none
  | id :: rest => match getQ id S.qs with
    | none => none
    | some q => match q.items with
      | [] => none
      | x :: xs => some (q, rest, x, xs)
theorem Front.eq {S : PS} {q : PQ} {rest : List Int} {x : Int × Int} {xs : List (Int × Int)} (h : Front S q rest x xs) : frontQ S = some (q, rest, x, xs) := by
  unfold frontQ
  rw [h.r]
  simp only
  rw [h.g]
  simp only
  rw [h.i]
def nextF : Nat → PS → Option (PS × (Int × Int))
  | 0, _ => none
  | f + 1, S => match frontQ S with
    | none => none
    | some (q, rest, x, xs) => if (servP S.quantum q).deficit < x.2 then nextF f (turnP S q rest) else some (takeP S q rest x xs, x)
theorem nextF_succ : ∀ (f : Nat) (S : PS) (r : PS × (Int × Int)), nextF f S = some r → nextF (f + 1) S = some r
  | 0, S, r, h => by cases h
  | f + 1, S, r, h => by
    unfold nextF at h ⊢
    cases hf : frontQ S with
    | none => rw [hf] at h; cases h
    | some t =>
      obtain ⟨q, rest, x, xs⟩ := t
      rw [hf] at h
      simp only at h ⊢
      by_cases hd : (servP S.quantum q).deficit < x.2
      · rw [if_pos hd] at h ⊢
        exact nextF_succ f _ r h
      · rw [if_neg hd] at h ⊢
        exact h
theorem nextF_add (f : Nat) (S : PS) (r : PS × (Int × Int)) (h : nextF f S = some r) : ∀ d, nextF (f + d) S = some r
  | 0 => h
  | d + 1 => nextF_succ _ _ _ (nextF_add f S r h d)
def NextIs (S S' : PS) (x : Int × Int) : Prop := ∃ f, nextF f S = some (S', x)
theorem NextIs.det {S S' S'' : PS} {x y : Int × Int} (h : NextIs S S' x) (k : NextIs S S'' y) : S' = S'' ∧ x = y := by
  obtain ⟨f, hf⟩ := h
  obtain ⟨g, hg⟩ := k
  have a := nextF_add f S _ hf g
  have b := nextF_add g S _ hg f
  rw [Nat.add_comm] at a
  rw [a] at b
  cases b
  exact ⟨rfl, rfl⟩
theorem Turned.next {S T S' : PS} {x : Int × Int} (h : Turned S T) (k : NextIs T S' x) : NextIs S S' x := by
  induction h with
  | refl => exact k
  | snoc ht hf hd ih =>
    refine ih ?_
    obtain ⟨f, hk⟩ := k
    refine ⟨f + 1, ?_⟩
    unfold nextF
    rw [hf.eq]
    simp only
    rw [if_pos hd]
    exact hk
theorem Front.take {T : PS} {q : PQ} {rest : List Int} {x : Int × Int} {xs : List (Int × Int)} (hf : Front T q rest x xs) (hd : x.2 ≤ (servP T.quantum q).deficit) : NextIs T (takeP T q rest x xs) x := by
  refine ⟨1, ?_⟩
  unfold nextF
  rw [hf.eq]
  simp only
  rw [if_neg (by omega)]
theorem Turned.tot {S T : PS} (h : Turned S T) (hS : S.Ok) : totQ T.qs = totQ S.qs := by
  induction h with
  | refl => rfl
  | snoc ht hf hd ih => rw [turnP_tot (ht.ok hS) hf, ih]
def remE (S : PS) (id : Int) : Int := match getQ id S.qs with
  | none => 7
  | some _ => 0
def remA (S : PS) (id : Int) : PS := match getQ id S.qs with
  | none => S
  | some _ => remP S id
theorem sumQ_filter (f : PQ → Nat) {q : PQ} : ∀ {l : List PQ}, (l.map PQ.id).Nodup → getQ q.id l = some q → sumQ f (l.filter fun p => !decide (p.id = q.id)) + f q = sumQ f l
  | [], _, h => by cases h
  | p :: l, hn, h => by
    rw [List.map_cons, List.nodup_cons] at hn
    unfold getQ at h
    by_cases hp : p.id = q.id
    · rw [if_pos hp] at h
      cases h
      rw [List.filter_cons_of_neg (by simp)]
      have : l.filter (fun r => !decide (r.id = q.id)) = l := by
        rw [List.filter_eq_self]
        intro r hr
        have : r.id ≠ q.id := fun e => hn.1 (by rw [← e]; exact List.mem_map_of_mem hr)
        simp [this]
      rw [this]
      show sumQ f l + f q = f q + sumQ f l
      omega
    · rw [if_neg hp] at h
      rw [List.filter_cons_of_pos (by simp [hp])]
      have := sumQ_filter f hn.2 h
      show f p + sumQ f _ + f q = f p + sumQ f l
      omega
/-! Beside other blocks. -/
structure Al (W : World) (bs : Nat) (S : PS) (F : List Nat) (w : World) : Prop where
  ok : S.Ok
  s : ∃ m, SchM w W.heap.size bs S m (totQ S.qs : Nat) ∧ ∀ y ∈ ownM bs S m, y ∉ F
  b : Below W.heap.size W w
  f : ∀ y ∈ F, y < w.heap.size
def Keep (F : List Nat) (w w' : World) : Prop := w.heap.size ≤ w'.heap.size ∧ ∀ y ∈ F, w'.heap[y]? = w.heap[y]?
theorem Keep.blk {F : List Nat} {w w' : World} {b : Nat} {cs : Array Value} {t : TypeId} (h : Keep F w w') (hb : Blk w b cs t) (hF : b ∈ F) : Blk w' b cs t := by
  unfold Blk at *
  rw [h.2 b hF]
  exact hb
theorem Keep.seg {F : List Nat} {w w' : World} {base size n : Nat} {e : TypeId} {v : Value} {xs : List Value} (h : Keep F w w') (hs : Seg w base e size v n xs) (hF : ∀ g, v.ownBlock = some g → g ∈ F) : Seg w' base e size v n xs :=
  hs.same fun g hg => h.2 g (hF g hg)
theorem Keep.of_below {F : List Nat} {w w' : World} (h : Below w.heap.size w w') (hF : ∀ y ∈ F, y < w.heap.size) : Keep F w w' := ⟨h.size, fun y hy => h.block y (hF y hy)⟩
theorem Keep.trans {F : List Nat} {a b c : World} (h : Keep F a b) (k : Keep F b c) : Keep F a c := ⟨Nat.le_trans h.1 k.1, fun y hy => (k.2 y hy).trans (h.2 y hy)⟩
section
variable {W w w' : World} {bs : Nat} {S S' : PS} {F : List Nat}
theorem Al.chain (h : Al W bs S F w) (hb : Below w.heap.size w w') : Al W bs S F w' := by
  obtain ⟨m, hs, hF⟩ := h.s
  exact ⟨h.ok, ⟨m, hs.chain hb, hF⟩, Below.chain hb h.b, fun y hy => Nat.lt_of_lt_of_le (h.f y hy) hb.size⟩
theorem Al.new (h : Al W bs S F w) (o : Obj) : Al W bs S (w.heap.size :: F) (w.alloc o) := by
  obtain ⟨m, hs, hF⟩ := h.s
  have hb := Below.chainAlloc (Below.refl _ w) o
  refine ⟨h.ok, ⟨m, hs.chain hb, fun y hy hm => ?_⟩, Below.chain hb h.b, fun y hy => ?_⟩
  · rcases List.mem_cons.1 hm with e | hm
    · have := (hs.own_lt hy).2
      omega
    · exact hF y hy hm
  · rw [size_alloc]
    rcases List.mem_cons.1 hy with e | hy
    · omega
    · have := h.f y hy; omega
/-- A store into a block that is not its own. -/
theorem Al.store (h : Al W bs S F w) (p : Addr) (v : Value) (hp : p.block ∈ F) (hW : W.heap.size ≤ p.block) : Al W bs S F (w.setCell p v) := by
  obtain ⟨m, hs, hF⟩ := h.s
  exact ⟨h.ok, ⟨m, hs.keep (X := [p.block]) ((Only.refl _ _).setCell p v (.inl (by simp))) (fun y hy hm => hF y hy (by
    have : y = p.block := by simpa using hm
    rw [this]; exact hp)), hF⟩, h.b.setCell hW v, fun y hy => by simpa [World.setCell] using h.f y hy⟩
theorem Al.less (h : Al W bs S F w) {F' : List Nat} (hF : ∀ y ∈ F', y ∈ F) : Al W bs S F' w := by
  obtain ⟨m, hs, hF0⟩ := h.s
  exact ⟨h.ok, ⟨m, hs, fun y hy hm => hF0 y hy (hF y hm)⟩, h.b, fun y hy => h.f y (hF y hy)⟩
/-- Blocks turned that are not its own, new ones beside. -/
theorem Al.other (h : Al W bs S F w) {X G : List Nat} (ho : Only X w w') (hX : ∀ y ∈ X, y ∈ F ∧ W.heap.size ≤ y) (hG : ∀ y ∈ G, w.heap.size ≤ y ∧ y < w'.heap.size) : Al W bs S (G ++ F) w' := by
  obtain ⟨m, hs, hF⟩ := h.s
  refine ⟨h.ok, ⟨m, hs.keep ho (fun y hy hm => hF y hy (hX y hm).1), fun y hy hm => ?_⟩, Below.only h.b ho (fun y hy => (hX y hy).2), fun y hy => ?_⟩
  · rcases List.mem_append.1 hm with hm | hm
    · have := (hG y hm).1
      have := (hs.own_lt hy).2
      omega
    · exact hF y hy hm
  · rcases List.mem_append.1 hy with hm | hm
    · exact (hG y hm).2
    · have := h.f y hm
      have := ho.size
      omega
theorem Al.step (h : Al W bs S F w) {m : DM} (hs : SchM w W.heap.size bs S m (totQ S.qs : Nat)) (hF : ∀ y ∈ ownM bs S m, y ∉ F) (hok : S'.Ok) {n' : Int} (hn : n' = (totQ S'.qs : Nat)) (hd : DPost W.heap.size bs S m w S' n' w') : Al W bs S' F w' ∧ Keep F w w' := by
  subst hn
  obtain ⟨m', hs', ho, hown⟩ := hd
  refine ⟨⟨hok, ⟨m', hs', fun y hy hm => ?_⟩, Below.only h.b ho (fun y hy => (hs.own_lt hy).1), fun y hy => Nat.lt_of_lt_of_le (h.f y hy) ho.size⟩, ho.size, fun y hy => ho.block y (h.f y hy) (fun hm => hF y hm hy)⟩
  rcases hown y hy with hy | hy
  · exact hF y hy hm
  · have := h.f y hm
    omega
theorem al_new (z : Int) (h1 : 1 ≤ z) (h2 : z ≤ 65536) (W w : World) (F : List Nat) (hb : Below W.heap.size W w) (hF : ∀ y ∈ F, y < w.heap.size) :
    Calls Try.prog 12 #[.int .i64 z] w fun e w' => ∃ bs, e = .returned (.tuple #[.pointer (some ⟨bs, 0, none⟩), .int .i64 0]) ∧ Al W bs (newP z) F w' ∧ Keep F w w' := by
  refine (dnew_ok z h1 h2 w).mono ?_
  rintro e w' ⟨rfl, hs, hb'⟩
  refine ⟨_, rfl, ⟨newP_ok ⟨h1, h2⟩, ⟨_, ⟨hs.s, hs.r.le hb.size, hs.q, by simp [newP], hb.size, by simp [newP], by simp [newP], by simp [newP]⟩, fun y hy hm => ?_⟩, Below.chain hb' hb, fun y hy => Nat.lt_of_lt_of_le (hF y hy) hb'.size⟩, Keep.of_below hb' hF⟩
  rcases own_cases hy with e | hy | ⟨q, hq, _⟩
  · have := hF y hm; omega
  · simp [Value.ownBlock] at hy
  · simp [newP] at hq
theorem al_add (id wt : Int) (h : Al W bs S F w) : Calls Try.prog 18 #[.pointer (some ⟨bs, 0, none⟩), .int .i64 id, .int .i64 wt] w fun e w' => e = .returned (.int .i64 (addE S id wt)) ∧ Al W bs (if addE S id wt = 0 then addP S id wt else S) F w' ∧ Keep F w w' := by
  obtain ⟨m, hs, hF⟩ := h.s
  refine (dadd_any bs _ S m _ id wt w hs h.ok).mono ?_
  rintro e w' ⟨rfl, hd⟩
  refine ⟨rfl, h.step hs hF ?_ ?_ hd⟩
  · split
    · rename_i he; exact addP_ok h.ok he
    · exact h.ok
  · split
    · show ((totQ S.qs : Nat) : Int) = ((totQ (S.qs ++ [_]) : Nat) : Int)
      unfold totQ
      rw [sumQ_app]
      simp [sumQ]
    · rfl
theorem al_push (x : Int × Int) (h : Al W bs S F w) (ht : totQ S.qs ≤ 60000) : Calls Try.prog 19 #[.pointer (some ⟨bs, 0, none⟩), itV x] w fun e w' => e = .returned (.int .i64 (pushE S x)) ∧ Al W bs (pushA S x) F w' ∧ Keep F w w' := by
  obtain ⟨m, hs, hF⟩ := h.s
  refine (dpush_any bs _ S m x w hs h.ok ht).mono ?_
  rintro e w' ⟨rfl, hd⟩
  exact ⟨rfl, h.step hs hF (pushA_ok h.ok x) rfl hd⟩
theorem al_rem (id : Int) (h : Al W bs S F w) (ht : totQ S.qs ≤ 60000) : Calls Try.prog 22 #[.pointer (some ⟨bs, 0, none⟩), .int .i64 id] w fun e w' => e = .returned (.int .i64 (remE S id)) ∧ Al W bs (remA S id) F w' ∧ Keep F w w' := by
  obtain ⟨m, hs, hF⟩ := h.s
  unfold remE remA
  cases hg : getQ id S.qs with
  | none =>
    refine (drem_none bs _ S m _ id w hs h.ok hg).mono ?_
    rintro e w' ⟨rfl, hb⟩
    exact ⟨rfl, h.chain hb, Keep.of_below hb h.f⟩
  | some q =>
    obtain ⟨hq, rfl⟩ := getQ_mem hg
    have hok := (h.ok.q q hq).id
    obtain ⟨k, hk⟩ : ∃ k : Nat, q.id = (k : Int) := ⟨q.id.toNat, by omega⟩
    have hg' := hg
    rw [hk] at hg ⊢
    refine (drem_ok bs _ S m _ k q w hs h.ok hg ⟨by omega, by omega⟩ ht).mono ?_
    rintro e w' ⟨rfl, hd⟩
    refine ⟨rfl, h.step hs hF (remP_ok h.ok k) ?_ hd⟩
    have := sumQ_filter (fun q => q.items.length) h.ok.nd hg'
    rw [hk] at this
    unfold totQ remP
    simp only at this ⊢
    omega
theorem al_len (id : Int) (h : Al W bs S F w) : Calls Try.prog 16 #[.pointer (some ⟨bs, 0, none⟩), .int .i64 id] w fun e w' => e = .returned (.int .i64 (lenP id S : Nat)) ∧ w = w' := by
  obtain ⟨m, hs, hF⟩ := h.s
  exact dlen_any bs _ S m _ id w hs h.ok
theorem al_wait (h : Al W bs S F w) : Calls Try.prog 14 #[.pointer (some ⟨bs, 0, none⟩)] w fun e w' => e = .returned (.int .i64 (totQ S.qs : Nat)) ∧ w = w' := by
  obtain ⟨m, hs, hF⟩ := h.s
  exact dwait_any bs _ S m _ w hs
/-- What Next did. -/
structure Took (S S' : PS) (x : Int × Int) : Prop where
  n : NextIs S S' x
  t : ∃ T q rest xs, Turned S T ∧ Front T q rest x xs ∧ x.2 ≤ (servP T.quantum q).deficit ∧ S' = takeP T q rest x xs
theorem al_next (h : Al W bs S F w) (ht : totQ S.qs ≤ 60000) (hr : S.round ≠ []) : Calls Try.prog 20 #[.pointer (some ⟨bs, 0, none⟩)] w fun e w' => ∃ S' x, e = .returned (.tuple #[itV x, .bool true]) ∧ Took S S' x ∧ Al W bs S' F w' ∧ Keep F w w' := by
  obtain ⟨m, hs, hF⟩ := h.s
  have hpos : 1 ≤ totQ S.qs := by
    obtain ⟨q, rest, x, xs, hf⟩ := h.ok.front hr
    have := len_le_tot hf.g
    rw [hf.i] at this
    simp at this
    omega
  refine (dnext_ok bs _ S m _ w hs h.ok hr ⟨by omega, by omega⟩).mono ?_
  rintro e w' ⟨T, q, rest, x, xs, hT, hf, hd, rfl, hp⟩
  have hTok := hT.ok h.ok
  refine ⟨_, x, rfl, ⟨hT.next (hf.take hd), T, q, rest, xs, hT, hf, hd, rfl⟩, h.step hs hF (takeP_ok hTok hf hd) ?_ hp⟩
  have h1 := takeP_tot hTok hf
  have h2 := hT.tot h.ok
  omega
theorem al_next0 (h : Al W bs S F w) (hr : S.round = []) : Calls Try.prog 20 #[.pointer (some ⟨bs, 0, none⟩)] w fun e w' => e = .returned (.tuple #[itV (0, 0), .bool false]) ∧ Al W bs S F w' ∧ Keep F w w' := by
  obtain ⟨m, hs, hF⟩ := h.s
  refine (dnext_none bs _ S m _ w hs hr).mono ?_
  rintro e w' ⟨rfl, hb⟩
  exact ⟨rfl, h.chain hb, Keep.of_below hb h.f⟩
end
end Go.Proofs.Ytgfbhclkpephnaa
