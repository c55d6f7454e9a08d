/-
  Maps as lists of keys and values, in the order in which they were laid: look-up, store, delete, length, range. Over any keys that compare as they read.
-/
import Derived.Test.YteepdknnmdhckaaBase
import Derived.Maps.RangeWalk
namespace Go.Proofs.Yteepdknnmdhckaa
open Go Go.RowKit
open Go.ChangeShapes Go.WideShapes Go.MapKept
open Go.ChangeMaps (setBlock)
set_option linter.unusedVariables false
set_option linter.unusedSectionVars false
section
variable {P : Program} {κ : Type} [DecidableEq κ]
/-- Keys of type K: 'enc' writes one as a value. -/
structure KeyE (P : Program) (K : TypeId) (enc : κ → Value) : Prop where
  check : ∀ (w : World) (em : Bool) (x : κ), (Instr.checkKey em 10000 K (enc x)).run P w = .ok () w
  find0 : ∀ (w : World) (x : κ), (Instr.findKey K (enc x) []).run P w = .ok none w
  find : ∀ (w : World) (x : κ) (es : List MapEntry) (i : Nat), (∀ e ∈ es, ∃ y, e.key = enc y) →
    ((Instr.findKey K (enc x) es).run P w = .ok none w ∧ ∀ e ∈ es, e.key ≠ enc x) ∨ ∃ j e, (Instr.findKey K (enc x) es).run P w = .ok (some (j, e.val)) w ∧ es[j]? = some e ∧ e.key = enc x
  stays : ∀ (w : World) (x : κ), (Instr.keyThatStays (enc x) (enc x)).run P w = .ok (enc x) w
  inj : ∀ x y, enc x = enc y → x = y
theorem KeyE.int {K : TypeId} {q : IntKind} (hk : P.underlying K = some (.int q)) : KeyE P K (Value.int q) where
  check w em x := run_checkKey (d := .int q) hk (k := .int q x) (by simp [IsKey]) em 9999
  find0 w x := by simp [Instr.findKey, run_underlying hk, Instr.findNow]
  find w x es _ hes := by
    have hks : ∀ y ∈ es, IsKey (.int q) y.key := fun y hy => by
      obtain ⟨l, hl⟩ := hes y hy
      rw [hl]; simp [IsKey]
    rcases findNow_spec (k := .int q x) (d := .int q) (by simp [IsKey]) es 0 hks with ⟨h1, h2⟩ | ⟨j, e0, h1, h2, h3⟩
    · exact Or.inl ⟨run_findKey hk h1, h2⟩
    · exact Or.inr ⟨j, e0, by simpa using run_findKey hk h1, h2, h3⟩
  stays w x := run_keyThatStays (d := .int q) (k := .int q x) (by simp [IsKey])
  inj x y h := by cases h; rfl
/-- Keys that are structs: their '==' by a run's equation. -/
theorem KeyE.wide {K : TypeId} {enc : κ → Value} (hwide : (match P.underlying K with | some (.array _ _) | some (.struct _) => true | _ => false) = true)
    (check : ∀ (w : World) (em : Bool) (x : κ), (Instr.checkKey em 10000 K (enc x)).run P w = .ok () w)
    (heq : ∀ (w : World) (x y : κ), (Op.equal K (enc x) (enc y)).run P w = .ok (decide (x = y)) w)
    (stays : ∀ (w : World) (x : κ), (Instr.keyThatStays (enc x) (enc x)).run P w = .ok (enc x) w) (inj : ∀ x y, enc x = enc y → x = y) : KeyE P K enc where
  check := check
  find0 w x := by rw [run_findKey_eq w hwide]; simp [Instr.findAsking]
  find w x es i hes := by
    rw [run_findKey_eq w hwide]
    have key : ∀ (es : List MapEntry) (i : Nat), (∀ e ∈ es, ∃ y, e.key = enc y) →
        ((Instr.findAsking K (enc x) es i).run P w = .ok none w ∧ ∀ e ∈ es, e.key ≠ enc x) ∨ ∃ j e, (Instr.findAsking K (enc x) es i).run P w = .ok (some (i + j, e.val)) w ∧ es[j]? = some e ∧ e.key = enc x := by
      intro es
      induction es with
      | nil => intro i _; exact Or.inl ⟨by simp [Instr.findAsking], by simp⟩
      | cons e es ih =>
        intro i hes
        obtain ⟨y, hy⟩ := hes e (by simp)
        have hr := heq w x y
        by_cases hxy : x = y
        · subst hxy
          refine Or.inr ⟨0, e, ?_, rfl, hy⟩
          rw [decide_eq_true rfl, ← hy] at hr
          rw [← hy]
          simp [Instr.findAsking, hr]
        · rw [decide_eq_false hxy, ← hy] at hr
          rcases ih (i + 1) (fun z hz => hes z (by simp [hz])) with ⟨h1, h2⟩ | ⟨j, e', h1, h2, h3⟩
          · left
            refine ⟨by simp [Instr.findAsking, hr, h1], fun z hz => ?_⟩
            rcases List.mem_cons.1 hz with rfl | hz
            · rw [hy]; exact fun h => hxy (inj _ _ h).symm
            · exact h2 z hz
          · exact Or.inr ⟨j + 1, e', by simp [Instr.findAsking, hr, h1, Nat.add_assoc, Nat.add_comm 1 j], by simpa using h2, h3⟩
    have := key es 0 hes
    simpa using this
  stays := stays
  inj := inj
variable {K E T : TypeId} {enc : κ → Value}
/-- The value at a key. -/
def getM (x : κ) : List (κ × Value) → Option Value
  | [] => none
  | p :: l => if p.1 = x then some p.2 else getM x l
/-- A store: in place, or behind. -/
def putM (x : κ) (v : Value) : List (κ × Value) → List (κ × Value)
  | [] => [(x, v)]
  | p :: l => if p.1 = x then (x, v) :: l else p :: putM x v l
/-- Without a key. -/
def delM (x : κ) (l : List (κ × Value)) : List (κ × Value) := l.filter (fun p => !decide (p.1 = x))
theorem getM_none {x : κ} : ∀ {l : List (κ × Value)}, getM x l = none ↔ ∀ p ∈ l, p.1 ≠ x
  | [] => by simp [getM]
  | p :: l => by
    by_cases h : p.1 = x
    · simp [getM, h]
    · simp [getM, h, getM_none (l := l)]
theorem getM_mem {x : κ} {v : Value} : ∀ {l : List (κ × Value)}, getM x l = some v → (x, v) ∈ l
  | [], h => by cases h
  | p :: l, h => by
    by_cases hp : p.1 = x
    · simp [getM, hp] at h
      subst h; subst hp; simp
    · simp [getM, hp] at h
      exact List.mem_cons_of_mem _ (getM_mem h)
theorem getM_of_mem {x : κ} {v : Value} : ∀ {l : List (κ × Value)}, (l.map Prod.fst).Nodup → (x, v) ∈ l → getM x l = some v
  | [], _, h => by cases h
  | p :: l, hn, h => by
    rw [List.map_cons, List.nodup_cons] at hn
    rcases List.mem_cons.1 h with h | h
    · subst h; simp [getM]
    · have hp : ¬ p.1 = x := fun e => hn.1 (e ▸ List.mem_map.2 ⟨_, h, rfl⟩)
      simp [getM, hp, getM_of_mem hn.2 h]
theorem putM_keys {x : κ} {v : Value} : ∀ {l : List (κ × Value)}, (putM x v l).map Prod.fst = if x ∈ l.map Prod.fst then l.map Prod.fst else l.map Prod.fst ++ [x]
  | [] => by simp [putM]
  | p :: l => by
    by_cases h : p.1 = x
    · simp [putM, h]
    · have h' : ¬ x = p.1 := fun e => h e.symm
      have ih := putM_keys (x := x) (v := v) (l := l)
      by_cases hm : x ∈ l.map Prod.fst
      · rw [if_pos hm] at ih
        simp only [putM, if_neg h, List.map_cons, ih]
        rw [if_pos (List.mem_cons_of_mem _ hm)]
      · rw [if_neg hm] at ih
        simp only [putM, if_neg h, List.map_cons, ih]
        rw [if_neg (by simp only [List.mem_cons, not_or]; exact ⟨h', hm⟩)]
        simp
theorem putM_nodup {x : κ} {v : Value} {l : List (κ × Value)} (h : (l.map Prod.fst).Nodup) : ((putM x v l).map Prod.fst).Nodup := by
  rw [putM_keys]
  split
  · exact h
  · rename_i hx
    rw [List.nodup_append]
    refine ⟨h, by simp, fun a ha b hb => ?_⟩
    rw [List.mem_singleton] at hb
    subst hb
    exact fun e => hx (e ▸ ha)
theorem putM_new {x : κ} {v : Value} : ∀ {l : List (κ × Value)}, (∀ p ∈ l, p.1 ≠ x) → putM x v l = l ++ [(x, v)]
  | [], _ => rfl
  | p :: l, h => by
    have hp : ¬ p.1 = x := h p (by simp)
    simp [putM, hp, putM_new (l := l) (fun q hq => h q (by simp [hq]))]
theorem putM_len {x : κ} {v : Value} (l : List (κ × Value)) : (putM x v l).length ≤ l.length + 1 := by
  induction l with
  | nil => simp [putM]
  | cons p l ih => by_cases h : p.1 = x <;> simp [putM, h]; exact ih
theorem getM_putM {x y : κ} {v : Value} : ∀ {l : List (κ × Value)}, getM y (putM x v l) = if x = y then some v else getM y l
  | [] => by by_cases h : x = y <;> simp [putM, getM, h]
  | p :: l => by
    by_cases h : p.1 = x
    · by_cases hy : x = y
      · simp [putM, getM, h, hy]
      · have h2 : ¬ p.1 = y := fun e => hy (h.symm.trans e)
        rw [if_neg hy]
        simp only [putM, if_pos h, getM, if_neg hy, if_neg h2]
    · by_cases hy : p.1 = y
      · have h2 : ¬ x = y := fun e => h (hy.trans e.symm)
        rw [if_neg h2]
        simp only [putM, if_neg h, getM, if_pos hy]
      · simp only [putM, if_neg h, getM, if_neg hy]
        exact getM_putM (l := l)
theorem delM_nodup {x : κ} {l : List (κ × Value)} (h : (l.map Prod.fst).Nodup) : ((delM x l).map Prod.fst).Nodup :=
  List.Sublist.nodup ((List.filter_sublist).map _) h
theorem delM_self {x : κ} {l : List (κ × Value)} (h : ∀ p ∈ l, p.1 ≠ x) : delM x l = l := List.filter_eq_self.2 (fun p hp => by simp [h p hp])
theorem getM_delM {x y : κ} : ∀ {l : List (κ × Value)}, getM y (delM x l) = if x = y then none else getM y l
  | [] => by simp [delM, getM]
  | p :: l => by
    have ih := getM_delM (x := x) (y := y) (l := l)
    unfold delM at ih ⊢
    by_cases h : p.1 = x
    · rw [List.filter_cons_of_neg (by simp [h]), ih]
      by_cases hy : x = y
      · simp [hy]
      · have : ¬ p.1 = y := fun e => hy (h.symm.trans e)
        simp [getM, hy, this]
    · rw [List.filter_cons_of_pos (by simp [h])]
      by_cases hy : p.1 = y
      · have : ¬ x = y := fun e => h (hy.trans e.symm)
        simp [getM, hy, this]
      · simp [getM, hy, ih]
/-- An entry as a pair. -/
def pairs (enc : κ → Value) (es : List MapEntry) (l : List (κ × Value)) : Prop := es.map (fun e => (e.key, e.val)) = l.map (fun p => (enc p.1, p.2))
/-- Block b is a map that reads as l. -/
def MapW (enc : κ → Value) (w : World) (b : Nat) (l : List (κ × Value)) : Prop :=
  ∃ es clock, w.heap[b]? = some (.map es clock) ∧ pairs enc es.toList l ∧ (l.map Prod.fst).Nodup ∧ (es.toList.map (·.born)).Nodup ∧ ∀ e ∈ es.toList, e.born < clock
theorem MapW.lt {w : World} {b : Nat} {l : List (κ × Value)} (h : MapW enc w b l) : b < w.heap.size := by
  obtain ⟨es, clock, hb, _⟩ := h
  exact (Array.getElem?_eq_some_iff.1 hb).1
theorem MapW.nodup {w : World} {b : Nat} {l : List (κ × Value)} (h : MapW enc w b l) : (l.map Prod.fst).Nodup := by
  obtain ⟨es, clock, hb, _, h, _⟩ := h
  exact h
theorem MapW.same {w w' : World} {b : Nat} {l : List (κ × Value)} (h : MapW enc w b l) (e : w'.heap[b]? = w.heap[b]?) : MapW enc w' b l := by
  obtain ⟨es, clock, hb, r⟩ := h
  exact ⟨es, clock, e.trans hb, r⟩
theorem MapW.only {w w' : World} {b : Nat} {l : List (κ × Value)} {S : List Nat} (h : MapW enc w b l) (ho : Only S w w') (hb : b ∉ S) : MapW enc w' b l := h.same (ho.block b h.lt hb)
theorem MapW.below {w w' : World} {b B : Nat} {l : List (κ × Value)} (h : MapW enc w b l) (ho : Below B w w') (hb : b < B) : MapW enc w' b l := h.same (ho.block b hb)
theorem MapW.chain {w w' : World} {b : Nat} {l : List (κ × Value)} (h : MapW enc w b l) (ho : Below w.heap.size w w') : MapW enc w' b l := h.below ho h.lt
theorem MapW.alloc {w : World} {b : Nat} {l : List (κ × Value)} (h : MapW enc w b l) (o : Obj) : MapW enc (w.alloc o) b l := h.chain ((Below.refl _ _).alloc (Nat.le_refl _) o)
theorem MapW.setCell {w : World} {b : Nat} {l : List (κ × Value)} (h : MapW enc w b l) (a : Addr) (v : Value) (hne : b ≠ a.block) : MapW enc (w.setCell a v) b l := h.same (Below.heap_setCell _ _ _ _ hne)
theorem MapW.new (enc : κ → Value) (w : World) : MapW enc (w.alloc (.map #[] 0)) w.heap.size [] := by
  refine ⟨#[], 0, ?_, rfl, by simp, by simp, by simp⟩
  show (w.heap.push _)[w.heap.size]? = _
  simp
theorem heap_setB {w : World} {b : Nat} {o0 : Obj} (hb : w.heap[b]? = some o0) (o : Obj) : (setBlock w b o).heap[b]? = some o := by
  have := (Array.getElem?_eq_some_iff.1 hb).1
  simp [setBlock, this]
theorem only_setBlock (w : World) (b : Nat) (o : Obj) : Only [b] w (setBlock w b o) :=
  ⟨rfl, rfl, rfl, by simp [setBlock], fun k _ hn => by
    have : b ≠ k := fun e => hn (by simp [e])
    simp [setBlock, this]⟩
theorem pairs_get {es : List MapEntry} {l : List (κ × Value)} (h : pairs enc es l) (i : Nat) : (es[i]?).map (fun e => (e.key, e.val)) = (l[i]?).map (fun p => (enc p.1, p.2)) := by
  have := congrArg (fun z => z[i]?) h
  simpa using this
theorem pairs_keys {es : List MapEntry} {l : List (κ × Value)} (h : pairs enc es l) : ∀ e ∈ es, ∃ y, e.key = enc y := by
  intro e he
  have : (e.key, e.val) ∈ es.map (fun e => (e.key, e.val)) := List.mem_map.2 ⟨e, he, rfl⟩
  rw [h] at this
  obtain ⟨p, _, hp⟩ := List.mem_map.1 this
  exact ⟨p.1, (congrArg Prod.fst hp).symm⟩
theorem pairs_none (H : KeyE P K enc) {es : List MapEntry} {l : List (κ × Value)} (h : pairs enc es l) {x : κ} (hn : ∀ e ∈ es, e.key ≠ enc x) : ∀ p ∈ l, p.1 ≠ x := by
  intro p hp e
  have : (enc p.1, p.2) ∈ l.map (fun p => (enc p.1, p.2)) := List.mem_map.2 ⟨p, hp, rfl⟩
  rw [← h] at this
  obtain ⟨y, hy, he⟩ := List.mem_map.1 this
  exact hn y hy ((congrArg Prod.fst he).trans (by rw [e]))
theorem pairs_some (H : KeyE P K enc) {es : List MapEntry} {l : List (κ × Value)} (h : pairs enc es l) {x : κ} {j : Nat} {e : MapEntry} (hj : es[j]? = some e) (hk : e.key = enc x) : l[j]? = some (x, e.val) := by
  have := pairs_get h j
  rw [hj] at this
  cases hl : l[j]? with
  | none => rw [hl] at this; cases this
  | some p =>
    rw [hl] at this
    simp only [Option.map_some, Option.some.injEq, Prod.mk.injEq] at this
    have h1 := H.inj _ _ (this.1.symm.trans hk)
    rw [← h1, this.2]
/-- 'm[k]', 'v, ok := m[k]'. -/
theorem MapW.look {w : World} {b : Nat} {l : List (κ × Value)} (h : MapW enc w b l) (H : KeyE P K enc) (ht : P.underlying T = some (.map K E)) (x : κ) {z : Value} (hz : (zeroValue E).run P w = .ok z w) (c : Bool) :
    (Instr.lookup T (.map (some b)) (enc x) c).run P w = .ok (if c then .tuple #[(getM x l).getD z, .bool (getM x l).isSome] else (getM x l).getD z) w := by
  obtain ⟨es, clock, hb, hp, hn, _⟩ := h
  rcases H.find w x es.toList 0 (pairs_keys hp) with ⟨h1, h2⟩ | ⟨j, e, h1, h2, h3⟩
  · have hg : getM x l = none := getM_none.2 (pairs_none H hp h2)
    cases c <;> simp [Instr.lookup, run_underlying ht, MapKept.run_getObj_map hb, H.check, h1, hz, hg, Result.andThen]
  · have hg : getM x l = some e.val := getM_of_mem hn (List.mem_of_getElem? (pairs_some H hp h2 h3))
    cases c <;> simp [Instr.lookup, run_underlying ht, MapKept.run_getObj_map hb, H.check, h1, hg, Result.andThen]
theorem look_none {w : World} (H : KeyE P K enc) (ht : P.underlying T = some (.map K E)) (x : κ) {z : Value} (hz : (zeroValue E).run P w = .ok z w) (c : Bool) :
    (Instr.lookup T (.map none) (enc x) c).run P w = .ok (if c then .tuple #[z, .bool false] else z) w := by
  cases c <;> simp [Instr.lookup, run_underlying ht, H.check, H.find0, hz, Result.andThen]
theorem putM_set {x : κ} {v : Value} : ∀ {l : List (κ × Value)} {j : Nat} {u : Value}, (l.map Prod.fst).Nodup → l[j]? = some (x, u) → putM x v l = l.set j (x, v)
  | [], j, u, _, h => by simp at h
  | p :: l, 0, u, _, h => by
    simp at h
    subst h
    simp [putM]
  | p :: l, j + 1, u, hn, h => by
    rw [List.map_cons, List.nodup_cons] at hn
    simp only [List.getElem?_cons_succ] at h
    have hp : ¬ p.1 = x := fun e => hn.1 (e ▸ List.mem_map.2 ⟨_, List.mem_of_getElem? h, rfl⟩)
    simp [putM, hp, putM_set hn.2 h]
/-- 'm[k] = v'. -/
theorem MapW.put {w : World} {b : Nat} {l : List (κ × Value)} (h : MapW enc w b l) (H : KeyE P K enc) (ht : P.underlying T = some (.map K E)) (x : κ) (v : Value) :
    ∃ w', (Instr.mapUpdate T (.map (some b)) (enc x) v).run P w = .ok () w' ∧ MapW enc w' b (putM x v l) ∧ Only [b] w w' := by
  obtain ⟨es, clock, hb, hp, hn, hs, hc⟩ := h
  rcases H.find w x es.toList 0 (pairs_keys hp) with ⟨h1, h2⟩ | ⟨j, e, h1, h2, h3⟩
  · have hl := pairs_none H hp h2
    refine ⟨setBlock w b (.map (es.push ⟨enc x, v, clock⟩) (clock + 1)), by simp [Instr.mapUpdate, run_underlying ht, MapKept.run_getObj_map hb, H.check, h1, MapKept.run_setObj_map _ hb, Result.andThen, setBlock], ⟨es.push ⟨enc x, v, clock⟩, clock + 1, heap_setB hb _, ?_, putM_nodup hn, ?_, ?_⟩, only_setBlock _ _ _⟩
    · rw [putM_new hl]
      unfold pairs at *
      simp [hp]
    · simp only [Array.toList_push, List.map_append, List.map_cons, List.map_nil]
      rw [List.nodup_append]
      refine ⟨hs, by simp, fun a ha y hy => ?_⟩
      obtain ⟨e, he, rfl⟩ := List.mem_map.1 ha
      rw [List.mem_singleton] at hy
      have := hc e he
      omega
    · intro e he
      simp only [Array.toList_push, List.mem_append, List.mem_singleton] at he
      rcases he with he | rfl
      · have := hc e he; omega
      · exact Nat.lt_succ_self _
  · have hj : es[j]? = some e := by simpa using h2
    have hlist : (es.modify j (fun e' => { e' with key := enc x, val := v })).toList = es.toList.set j { e with key := enc x, val := v } := by rw [Array.toList_modify, ChangeMaps.modify_eq_set _ _ _ _ h2]
    refine ⟨setBlock w b (.map (es.modify j (fun e' => { e' with key := enc x, val := v })) clock), ?_, ⟨_, clock, heap_setB hb _, ?_, putM_nodup hn, ?_, ?_⟩, only_setBlock _ _ _⟩
    · simp [Instr.mapUpdate, run_underlying ht, MapKept.run_getObj_map hb, H.check, h1, hj, h3, H.stays, MapKept.run_setObj_map _ hb, Result.andThen, setBlock]
    · rw [putM_set hn (pairs_some H hp h2 h3), hlist]
      unfold pairs at *
      rw [List.map_set, List.map_set, hp]
    · rw [hlist, List.map_set]
      have : (es.toList.map (·.born)).set j e.born = es.toList.map (·.born) := by
        apply List.ext_getElem?
        intro i
        rw [List.getElem?_set]
        split
        · rename_i hi
          subst hi
          simp at h2 ⊢
          rw [h2]
          simp
          exact (Array.getElem?_eq_some_iff.1 h2).1
        · rfl
      simpa [this] using hs
    · intro y hy
      rw [hlist] at hy
      rcases List.mem_or_eq_of_mem_set hy with hy | rfl
      · exact hc y hy
      · exact hc e (List.mem_of_getElem? h2)
theorem delM_erase {x : κ} : ∀ {l : List (κ × Value)} {j : Nat} {u : Value}, (l.map Prod.fst).Nodup → l[j]? = some (x, u) → delM x l = l.eraseIdx j
  | [], j, u, _, h => by simp at h
  | p :: l, 0, u, hn, h => by
    simp at h
    subst h
    rw [List.map_cons, List.nodup_cons] at hn
    have : delM x ((x, u) :: l) = delM x l := by simp [delM]
    rw [this]
    exact delM_self (fun q hq e => hn.1 (e ▸ List.mem_map.2 ⟨_, hq, rfl⟩))
  | p :: l, j + 1, u, hn, h => by
    rw [List.map_cons, List.nodup_cons] at hn
    simp only [List.getElem?_cons_succ] at h
    have hp : ¬ p.1 = x := fun e => hn.1 (e ▸ List.mem_map.2 ⟨_, List.mem_of_getElem? h, rfl⟩)
    have ih := delM_erase hn.2 h
    unfold delM at ih ⊢
    rw [List.filter_cons_of_pos (by simp [hp]), ih]
    rfl
open Classical in
/-- 'delete(m, k)': also what it does to the entries' stamps. -/
theorem MapW.del0 {w : World} {b : Nat} {l : List (κ × Value)} {es : Array MapEntry} {clock : Nat} (hb : w.heap[b]? = some (.map es clock)) (hp : pairs enc es.toList l) (hn : (l.map Prod.fst).Nodup) (H : KeyE P K enc) (ht : P.underlying T = some (.map K E)) (x : κ) (ty : TypeId) :
    ∃ es', (Builtin.delete_ #[T, K] ty #[.map (some b), enc x]).run P w = .ok (.tuple #[]) (setBlock w b (.map es' clock)) ∧ pairs enc es'.toList (delM x l) ∧ es'.toList = es.toList.filter (fun e => !decide (∃ v, (x, v) ∈ l ∧ e.key = enc x)) := by
  classical
  rcases H.find w x es.toList 0 (pairs_keys hp) with ⟨h1, h2⟩ | ⟨j, e, h1, h2, h3⟩
  · refine ⟨es, by simp [Builtin.delete_, run_underlying ht, MapKept.run_getObj_map hb, H.check, h1, MapKept.run_setObj_map _ hb, Result.andThen, setBlock], ?_, ?_⟩
    · rw [delM_self (pairs_none H hp h2)]; exact hp
    · refine (List.filter_eq_self.2 (fun e he => ?_)).symm
      simp only [Bool.not_eq_true', decide_eq_false_iff_not]
      rintro ⟨v, hv, hk⟩
      exact h2 e he hk
  · have hjl : j < es.toList.length := (List.getElem?_eq_some_iff.1 h2).1
    have hjs : j < es.size := by simpa using hjl
    have hsub : (es.eraseIdxIfInBounds j).toList = es.toList.eraseIdx j := by
      unfold Array.eraseIdxIfInBounds
      rw [dif_pos hjs]
      simp
    have hl := pairs_some H hp h2 h3
    have hde := delM_erase hn hl
    have hpe : pairs enc (es.toList.eraseIdx j) (delM x l) := by
      rw [hde]
      unfold pairs at *
      rw [ChangeMaps.map_eraseIdx, ChangeMaps.map_eraseIdx, hp]
    refine ⟨es.eraseIdxIfInBounds j, by simp [Builtin.delete_, run_underlying ht, MapKept.run_getObj_map hb, H.check, h1, MapKept.run_setObj_map _ hb, Result.andThen, setBlock], by rw [hsub]; exact hpe, ?_⟩
    rw [hsub]
    refine (ChangeMaps.filter_eq_eraseIdx (fun y : MapEntry => decide (∃ v, (x, v) ∈ l ∧ y.key = enc x)) es.toList j e h2 ?_ ?_).symm
    · exact decide_eq_true ⟨_, List.mem_of_getElem? hl, h3⟩
    · have hk : (es.toList.map (·.key)).Nodup := by
        have e1 : es.toList.map (·.key) = (l.map Prod.fst).map enc := by
          have := congrArg (List.map Prod.fst) hp
          simpa [Function.comp_def] using this
        rw [e1]
        exact List.Pairwise.map _ (fun a b hab hf => hab (H.inj _ _ hf)) hn
      rw [List.pairwise_iff_getElem] 
      intro i k hi hk' hik h4
      obtain ⟨h4, h5⟩ := h4
      simp only [decide_eq_true_eq] at h4 h5
      obtain ⟨_, _, h4⟩ := h4
      obtain ⟨_, _, h5⟩ := h5
      have := (List.pairwise_iff_getElem.1 hk) i k (by simpa using hi) (by simpa using hk') hik
      simp at this h4 h5
      exact this (h4.trans h5.symm)
theorem MapW.del {w : World} {b : Nat} {l : List (κ × Value)} (h : MapW enc w b l) (H : KeyE P K enc) (ht : P.underlying T = some (.map K E)) (x : κ) :
    ∃ w', (∀ ty, (Builtin.delete_ #[T, K] ty #[.map (some b), enc x]).run P w = .ok (.tuple #[]) w') ∧ MapW enc w' b (delM x l) ∧ Only [b] w w' := by
  classical
  obtain ⟨es, clock, hb, hp, hn, hs, hc⟩ := h
  obtain ⟨es', hrun, hp', he⟩ := MapW.del0 hb hp hn H ht x 0
  refine ⟨_, fun ty => hrun, ⟨es', clock, heap_setB hb _, hp', delM_nodup hn, ?_, fun e hm => ?_⟩, only_setBlock _ _ _⟩
  · rw [he]; exact List.Sublist.nodup ((List.filter_sublist).map _) hs
  · rw [he] at hm; exact hc e (List.mem_filter.1 hm).1
/-- 'len(m)'. -/
theorem MapW.len {w : World} {b : Nat} {l : List (κ × Value)} (h : MapW enc w b l) (ht : P.underlying T = some (.map K E)) : ∀ ty, (Builtin.len_ #[T] ty #[.map (some b)]).run P w = .ok (.int .i64 (l.length : Nat)) w := by
  intro ty
  obtain ⟨es, clock, hb, hp, _⟩ := h
  have e1 : es.size = l.length := by
    have := congrArg List.length hp
    simpa using this
  simp [Builtin.len_, run_underlying ht, MapKept.run_getObj_map hb, goInt, Result.andThen, e1]
end
end Go.Proofs.Yteepdknnmdhckaa
