/-
  Frag: a joiner by lists alone: what Put makes of it (chapter 49).
-/
import Derived.Test.YtgfbhclkpephnaaFr9
namespace Go.Proofs.Ytgfbhclkpephnaa
open Go Go.RowKit
set_option linter.unusedVariables false
set_option maxRecDepth 100000
set_option maxHeartbeats 1000000
/-- An entry without its places in memory. -/
structure AE where
  id : Int
  n : Int
  ps : List (Int × List UInt8)
def FE.abs (e : FE) : AE := ⟨e.id, e.n, e.ps⟩
def getA (id : Int) : List AE → Option AE
  | [] => none
  | e :: es => if e.id = id then some e else getA id es
theorem getA_abs (id : Int) : ∀ {es : List FE}, getA id (es.map FE.abs) = (getE id es).map FE.abs
  | [] => rfl
  | e :: es => by
    show (if e.id = id then some _ else getA id (es.map FE.abs)) = _
    unfold getE
    by_cases h : e.id = id
    · rw [if_pos h, if_pos h]; rfl
    · rw [if_neg h, if_neg h, getA_abs id]
def setP (k : Int) (b : List UInt8) : List (Int × List UInt8) → List (Int × List UInt8)
  | [] => [(k, b)]
  | p :: ps => if p.1 = k then (k, b) :: ps else p :: setP k b ps
theorem putM_ps (k : Int) (b : List UInt8) : ∀ {ps : List (Int × List UInt8)}, putM k (Str b) (psM ps) = psM (setP k b ps)
  | [] => rfl
  | p :: ps => by
    show (if p.1 = k then _ else _ :: putM k (Str b) (psM ps)) = _
    unfold setP
    by_cases h : p.1 = k
    · rw [if_pos h, if_pos h]; rfl
    · rw [if_neg h, if_neg h, putM_ps k b]; rfl
theorem getP_setP (k j : Int) (b : List UInt8) : ∀ {ps : List (Int × List UInt8)}, getP j (setP k b ps) = if k = j then some b else getP j ps
  | [] => by
    show (if k = j then some b else none) = _
    rfl
  | p :: ps => by
    unfold setP
    by_cases h : p.1 = k
    · rw [if_pos h]
      unfold getP
      by_cases h2 : k = j
      · rw [if_pos h2, if_pos h2]
      · rw [if_neg h2, if_neg h2, if_neg (by rw [h]; exact h2)]
    · rw [if_neg h]
      unfold getP
      by_cases h2 : p.1 = j
      · rw [if_pos h2, if_pos h2, if_neg (by rw [← h2]; exact fun e => h e.symm)]
      · rw [if_neg h2, if_neg h2, getP_setP k j b]
theorem setP_mem {k : Int} {b : List UInt8} : ∀ {ps : List (Int × List UInt8)} {q}, q ∈ setP k b ps → q ∈ ps ∨ q = (k, b)
  | [], q, h => .inr (by simpa [setP] using h)
  | p :: ps, q, h => by
    unfold setP at h
    by_cases hk : p.1 = k
    · rw [if_pos hk] at h
      rcases List.mem_cons.1 h with h | h
      · exact .inr h
      · exact .inl (List.mem_cons_of_mem _ h)
    · rw [if_neg hk] at h
      rcases List.mem_cons.1 h with h | h
      · exact .inl (h ▸ List.mem_cons_self)
      · exact (setP_mem h).imp (fun h => List.mem_cons_of_mem _ h) id
theorem setP_len {k : Int} {b : List UInt8} : ∀ {ps : List (Int × List UInt8)}, (setP k b ps).length = if (getP k ps).isSome then ps.length else ps.length + 1
  | [] => rfl
  | p :: ps => by
    unfold setP getP
    by_cases hk : p.1 = k
    · rw [if_pos hk, if_pos hk]; rfl
    · rw [if_neg hk, if_neg hk, List.length_cons, setP_len]
      cases (getP k ps).isSome <;> rfl
theorem getP_mem {k : Int} {v : List UInt8} : ∀ {ps : List (Int × List UInt8)}, getP k ps = some v → (k, v) ∈ ps
  | [], h => by cases h
  | p :: ps, h => by
    unfold getP at h
    by_cases hk : p.1 = k
    · rw [if_pos hk] at h
      cases h
      exact hk ▸ List.mem_cons_self
    · rw [if_neg hk] at h
      exact List.mem_cons_of_mem _ (getP_mem h)
/-- How big all is. -/
structure AOk (e : AE) : Prop where
  n : ∃ n : Nat, e.n = (n : Int) ∧ n ≤ 255
  l : ∀ p ∈ e.ps, p.2.length ≤ 1000
theorem AOk.at {e : AE} (h : AOk e) (k : Int) : ((getP k e.ps).getD []).length ≤ 100000 := by
  cases hg : getP k e.ps with
  | none => simp
  | some v => have := h.l _ (getP_mem hg); simp at this ⊢; omega
/-- The error of enter; all entries behind it; the part's. -/
def entE (room : Int) (A : List AE) (p : Pt) : Int :=
  match getA p.id A with
  | none => if room ≤ (A.length : Nat) then 9 else 0
  | some e => if e.n ≠ p.n then 16 else match getP p.place e.ps with
    | none => 0
    | some v => if v = p.body then 0 else 16
def entA (A : List AE) (p : Pt) : AE := (getA p.id A).getD ⟨p.id, p.n, []⟩
def entL (A : List AE) (p : Pt) : List AE := if (getA p.id A).isSome then A else A ++ [⟨p.id, p.n, []⟩]
def newA (A : List AE) (p : Pt) : AE := ⟨p.id, (entA A p).n, setP p.place p.body (entA A p).ps⟩
def repA (e : AE) (A : List AE) : List AE := A.map fun f => if f.id = e.id then e else f
def cutA (id : Int) (A : List AE) : List AE := A.filter fun f => !decide (f.id = id)
/-- All that Put answers, and what is there behind it. -/
structure PutR where
  A : List AE
  t : List UInt8
  ok : Bool
  err : Int
def putA (room : Int) (A : List AE) (s : List UInt8) : PutR :=
  if s.length ≤ 6 then ⟨A, [], false, 4⟩
  else if (ptS s).n ≤ (ptS s).place then ⟨A, [], false, 5⟩
  else if entE room A (ptS s) ≠ 0 then ⟨A, [], false, entE room A (ptS s)⟩
  else if ((newA A (ptS s)).ps.length : Int) < (newA A (ptS s)).n then ⟨repA (newA A (ptS s)) (entL A (ptS s)), [], false, 0⟩
  else ⟨cutA (ptS s).id (entL A (ptS s)), textF (newA A (ptS s)).ps (newA A (ptS s)).n.toNat, true, 0⟩
/-! In memory. -/
theorem map_inj_nd {α β : Type} {g : α → β} : ∀ {l : List α} {x y : α}, (l.map g).Nodup → x ∈ l → y ∈ l → g x = g y → x = y
  | [], _, _, _, hx, _, _ => by cases hx
  | a :: l, x, y, hn, hx, hy, h => by
    rw [List.map_cons, List.nodup_cons] at hn
    rcases List.mem_cons.1 hx with hx' | hx' <;> rcases List.mem_cons.1 hy with hy' | hy'
    · rw [hx', hy']
    · exact absurd (List.mem_map.2 ⟨y, hy', by rw [← h, hx']⟩) hn.1
    · exact absurd (List.mem_map.2 ⟨x, hx', by rw [h, hy']⟩) hn.1
    · exact map_inj_nd hn.2 hx' hy' h
/-- A joiner that reads as the entries A; what Put turns lies behind base. -/
def JnA (base : Nat) (w : World) (bj bm : Nat) (room : Int) (A : List AE) : Prop :=
  ∃ es, Jn w bj bm room es ∧ es.map FE.abs = A ∧ base ≤ bm ∧ (∀ e ∈ es, base ≤ e.bp) ∧ ∀ e ∈ A, AOk e
theorem JnA.chain {base : Nat} {w w' : World} {bj bm : Nat} {room : Int} {A : List AE} (h : JnA base w bj bm room A) (hb : Below w.heap.size w w') : JnA base w' bj bm room A := by
  obtain ⟨es, h1, h2⟩ := h
  exact ⟨es, h1.chain hb, h2⟩
/-- Nothing turned but maps, behind base. -/
def MapsO (base : Nat) (w w' : World) : Prop := ∃ S, Only S w w' ∧ ∀ x ∈ S, base ≤ x ∧ ∀ cs t fr, w.heap[x]? ≠ some (.cells cs t fr)
theorem MapsO.of_below {base : Nat} {w w' : World} (h : Below w.heap.size w w') : MapsO base w w' := ⟨[], Only.of_below h, by simp⟩
theorem MapsO.blk {base b : Nat} {w w' : World} {cs : Array Value} {t : TypeId} (h : MapsO base w w') (hb : Blk w b cs t) : Blk w' b cs t := by
  obtain ⟨S, ho, hs⟩ := h
  exact hb.only ho (fun hm => (hs _ hm).2 _ _ _ hb)
theorem MapsO.sl {base B : Nat} {w w' : World} {v : Value} {vs : List Value} {t : TypeId} (h : MapsO base w w') (hB : B ≤ base) (hb : SlAt B w t v vs) : SlAt B w' t v vs := by
  obtain ⟨S, ho, hs⟩ := h
  exact hb.only ho (fun x hx => ⟨Nat.le_trans hB (hs x hx).1, fun cs fr => (hs x hx).2 cs t fr⟩)
theorem MapsO.below {base : Nat} {w w' : World} (h : MapsO base w w') (hb : base ≤ w.heap.size) : Below base w w' := by
  obtain ⟨S, ho, hs⟩ := h
  exact ho.below hb (fun x hx => (hs x hx).1)
theorem MapW.nocells {κ : Type} {enc : κ → Value} {w : World} {b : Nat} {l : List (κ × Value)} (h : MapW enc w b l) : ∀ cs t fr, w.heap[b]? ≠ some (.cells cs t fr) := by
  obtain ⟨es, c, hh, _⟩ := h
  intro cs t fr e
  rw [hh] at e
  cases e
def FE.withP (e : FE) (ps : List (Int × List UInt8)) : FE := { e with ps := ps }
def repE (e : FE) (ps : List (Int × List UInt8)) (es : List FE) : List FE := es.map fun f => if f.id = e.id then f.withP ps else f
theorem repE_proj {β : Type} (g : FE → β) (hg : ∀ f ps, g (f.withP ps) = g f) (e : FE) (ps : List (Int × List UInt8)) (es : List FE) : (repE e ps es).map g = es.map g := by
  unfold repE
  rw [List.map_map]
  refine List.map_congr_left fun f _ => ?_
  simp only [Function.comp_apply]
  split
  · exact hg f ps
  · rfl
theorem repE_abs {e : FE} {ps : List (Int × List UInt8)} {es : List FE} (he : e ∈ es) (hn : (es.map FE.id).Nodup) : (repE e ps es).map FE.abs = repA ⟨e.id, e.n, ps⟩ (es.map FE.abs) := by
  unfold repE repA
  rw [List.map_map, List.map_map]
  refine List.map_congr_left fun f hf => ?_
  simp only [Function.comp_apply]
  by_cases h : f.id = e.id
  · rw [if_pos h, if_pos (show f.abs.id = _ from h)]
    rw [map_inj_nd hn hf he h]
    rfl
  · rw [if_neg h, if_neg (show ¬ f.abs.id = _ from h)]
/-- The parts of an entry turn. -/
theorem Jn.rep {w w' : World} {bj bm : Nat} {room : Int} {es : List FE} {e : FE} (h : Jn w bj bm room es) (he : e ∈ es) {ps : List (Int × List UInt8)} (ho : Only [e.bp] w w') (hm : MapW (Value.int .i64) w' e.bp (psM ps)) :
    Jn w' bj bm room (repE e ps es) := by
  have hd := h.d
  rw [List.nodup_cons] at hd
  have hne : bm ≠ e.bp := fun x => hd.1 (x ▸ List.mem_map_of_mem he)
  refine ⟨h.b.only ho (by simpa using h.b.ne_map (h.e e he).m), ?_, fun f hf => ?_, ?_⟩
  · rw [repE_proj FE.mp (fun _ _ => rfl)]
    exact h.m.only ho (by simpa using hne)
  · obtain ⟨f0, hf0, rfl⟩ := List.mem_map.1 hf
    by_cases hid : f0.id = e.id
    · rw [if_pos hid]
      obtain rfl := map_inj_nd h.ids hf0 he hid
      exact ⟨(h.e f0 he).b.only ho (by simpa using (h.e f0 he).b.ne_map (h.e f0 he).m), hm⟩
    · rw [if_neg hid]
      have hne2 : f0.bp ≠ e.bp := fun x => hid (congrArg FE.id (map_inj_nd hd.2 hf0 he x))
      exact (h.e f0 hf0).only ho (by simpa using (h.e f0 hf0).b.ne_map (h.e e he).m) (by simpa using hne2)
  · rw [repE_proj FE.bp (fun _ _ => rfl)]
    exact h.d
theorem delM_mpE (id : Int) (es : List FE) : delM id (es.map FE.mp) = (es.filter fun f => !decide (f.id = id)).map FE.mp := by
  unfold delM
  rw [List.filter_map]
  rfl
/-- An entry goes. -/
theorem Jn.cut {w w' : World} {bj bm : Nat} {room : Int} {es : List FE} {id : Int} (h : Jn w bj bm room es) (ho : Only [bm] w w') (hm : MapW (Value.int .u32) w' bm (delM id (es.map FE.mp))) :
    Jn w' bj bm room (es.filter fun f => !decide (f.id = id)) ∧ ∀ e ∈ es, EntW w' e := by
  have hd := h.d
  have hd2 := hd
  rw [List.nodup_cons] at hd2
  have hk : ∀ e ∈ es, EntW w' e := fun e he => (h.e e he).only ho (by simpa using (h.e e he).b.ne_map h.m) (by
    simp only [List.mem_singleton]
    exact fun x => hd2.1 (x ▸ List.mem_map_of_mem he))
  refine ⟨⟨h.b.only ho (by simpa using h.b.ne_map h.m), delM_mpE id es ▸ hm, fun e he => hk e (List.mem_filter.1 he).1, ?_⟩, hk⟩
  exact List.Sublist.nodup (List.Sublist.cons_cons _ ((List.filter_sublist).map _)) hd
theorem cut_abs (id : Int) (es : List FE) : (es.filter fun f => !decide (f.id = id)).map FE.abs = cutA id (es.map FE.abs) := by
  unfold cutA
  rw [List.filter_map]
  rfl
end Go.Proofs.Ytgfbhclkpephnaa
