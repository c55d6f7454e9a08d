/-
  Frag: a joiner as it lies in memory; New, Len (chapter 49).
-/
import Derived.Test.YtgfbhclkpephnaaFr0
import Derived.Test.YtgfbhclkpephnaaMpR
namespace Go.Proofs.Ytgfbhclkpephnaa
open Go Go.RowKit
set_option linter.unusedVariables false
set_option maxRecDepth 100000
set_option maxHeartbeats 1000000
/-- An entry: its id, how many parts there are to be, where it and its parts lie, the parts by places. -/
structure FE where
  id : Int
  n : Int
  be : Nat
  bp : Nat
  ps : List (Int × List UInt8)
def FE.mp (e : FE) : Int × Value := (e.id, .pointer (some ⟨e.be, 0, none⟩))
def psM (ps : List (Int × List UInt8)) : List (Int × Value) := ps.map fun p => (p.1, Str p.2)
structure EntW (w : World) (e : FE) : Prop where
  b : Blk w e.be #[.int .i64 e.n, .map (some e.bp)] 162
  m : MapW (Value.int .i64) w e.bp (psM e.ps)
structure Jn (w : World) (bj bm : Nat) (room : Int) (es : List FE) : Prop where
  b : Blk w bj #[.int .i64 room, .map (some bm)] 142
  m : MapW (Value.int .u32) w bm (es.map FE.mp)
  e : ∀ e ∈ es, EntW w e
  d : (bm :: es.map FE.bp).Nodup
theorem undF : Try.prog.underlying 140 = some (.map 53 157) := Try.underlying140
theorem undP : Try.prog.underlying 160 = some (.map 3 9) := Try.underlying160
theorem zeroFE (w : World) : (zeroValue 157).run Try.prog w = .ok (.pointer none) w := by kernel_rfl
theorem zeroFS (w : World) : (zeroValue 9).run Try.prog w = .ok (.string ⟨#[]⟩) w := by kernel_rfl
theorem keyU : KeyE Try.prog 53 (Value.int .u32) := KeyE.int Try.underlying53
theorem keyI : KeyE Try.prog 3 (Value.int .i64) := KeyE.int Try.underlying3
def getE (id : Int) : List FE → Option FE
  | [] => none
  | e :: es => if e.id = id then some e else getE id es
theorem getE_mp (id : Int) : ∀ {es : List FE}, getM id (es.map FE.mp) = (getE id es).map fun e => .pointer (some ⟨e.be, 0, none⟩)
  | [] => rfl
  | e :: es => by
    show (if e.id = id then some _ else getM id (es.map FE.mp)) = _
    unfold getE
    by_cases h : e.id = id
    · rw [if_pos h, if_pos h]
      rfl
    · rw [if_neg h, if_neg h, getE_mp id]
theorem getE_mem {id : Int} {e : FE} : ∀ {es : List FE}, getE id es = some e → e ∈ es ∧ e.id = id
  | [], h => by cases h
  | f :: es, h => by
    unfold getE at h
    by_cases hf : f.id = id
    · rw [if_pos hf] at h
      cases h
      exact ⟨List.mem_cons_self, hf⟩
    · rw [if_neg hf] at h
      obtain ⟨h1, h2⟩ := getE_mem h
      exact ⟨List.mem_cons_of_mem _ h1, h2⟩
theorem EntW.only {S : List Nat} {w w' : World} {e : FE} (h : EntW w e) (ho : Only S w w') (h1 : e.be ∉ S) (h2 : e.bp ∉ S) : EntW w' e := ⟨h.b.only ho h1, h.m.only ho h2⟩
theorem EntW.chain {w w' : World} {e : FE} (h : EntW w e) (hb : Below w.heap.size w w') : EntW w' e := ⟨h.b.below hb h.b.lt, h.m.chain hb⟩
theorem Jn.chain {w w' : World} {bj bm : Nat} {room : Int} {es : List FE} (h : Jn w bj bm room es) (hb : Below w.heap.size w w') : Jn w' bj bm room es :=
  ⟨h.b.below hb h.b.lt, h.m.chain hb, fun e he => (h.e e he).chain hb, h.d⟩
theorem Jn.kept {S : List Nat} {w w' : World} {bj bm : Nat} {room : Int} {es : List FE} (h : Jn w bj bm room es) (ho : Only S w w') (h1 : bj ∉ S) (h2 : bm ∉ S) (h3 : ∀ e ∈ es, e.be ∉ S ∧ e.bp ∉ S) : Jn w' bj bm room es :=
  ⟨h.b.only ho h1, h.m.only ho h2, fun e he => (h.e e he).only ho (h3 e he).1 (h3 e he).2, h.d⟩
theorem Jn.ids {w : World} {bj bm : Nat} {room : Int} {es : List FE} (h : Jn w bj bm room es) : (es.map FE.id).Nodup := by
  have := h.m.nodup
  rw [List.map_map] at this
  exact this
/-- A block of cells is no map. -/
theorem Blk.ne_map {κ : Type} {enc : κ → Value} {w : World} {b c : Nat} {cs : Array Value} {t : TypeId} {l : List (κ × Value)} (h : Blk w b cs t) (m : MapW enc w c l) : b ≠ c := by
  rintro rfl
  obtain ⟨es, clock, hm, _⟩ := m
  rw [show w.heap[b]? = _ from h] at hm
  cases hm
theorem fnew_ok (room : Int) (h1 : 1 ≤ room) (h2 : room ≤ 256) (w : World) : Calls Try.prog 36 #[.int .i64 room] w fun e w' => e = .returned (.tuple #[.pointer (some ⟨w.heap.size + 1, 0, none⟩), .int .i64 0]) ∧ Jn w' (w.heap.size + 1) w.heap.size room [] ∧ Below w.heap.size w w' := by
  have hmm := @run_makeMap Try.prog
  have g1 := (MapW.new (Value.int .u32) w).alloc (.cells #[.int .i64 room, .map (some w.heap.size)] 142)
  have g2 := Blk.new (w.alloc (.map #[] 0)) #[.int .i64 room, .map (some w.heap.size)] 142
  have hB := Below.chainAlloc (Below.chainAlloc (Below.refl _ w) (.map #[] 0)) (.cells #[.int .i64 room, .map (some w.heap.size)] 142)
  rw [size_alloc] at g2
  have H := Lib.hid (And.intro g1 (And.intro g2 hB))
  clear g1 g2 hB
  have h3 : ¬ room < 1 := by omega
  have h4 : ¬ 256 < room := by omega
  go_enter Try.func36, Try.ntmps36
  go_wp2_with fail
  go_ret2
  exact ⟨rfl, ⟨H.out.2.1, H.out.1, fun e he => (by cases he), by simp⟩, H.out.2.2⟩
theorem fnew_bad (room : Int) (h : room < 1 ∨ 256 < room) (w : World) : Calls Try.prog 36 #[.int .i64 room] w fun e w' => e = .returned (.tuple #[.pointer none, .int .i64 1]) ∧ w = w' := by
  rcases h with h | h
  · go_enter Try.func36, Try.ntmps36
    go_wp2_with fail
    go_ret2
    exact ⟨rfl, rfl⟩
  · have h3 : ¬ room < 1 := by omega
    go_enter Try.func36, Try.ntmps36
    go_wp2_with fail
    go_ret2
    exact ⟨rfl, rfl⟩
theorem flen_any (bj bm : Nat) (room : Int) (es : List FE) (w : World) (h : Jn w bj bm room es) : Calls Try.prog 39 #[.pointer (some ⟨bj, 0, none⟩)] w fun e w' => e = .returned (.int .i64 (es.length : Nat)) ∧ w = w' := by
  obtain ⟨x1, x2, x3⟩ := h.b.facts
  have y0 := x1 1
  have hl := h.m.len undF
  rw [List.length_map] at hl
  clear x1 x2 h
  go_enter Try.func39, Try.ntmps39
  go_wp2_with fail
  go_ret
  exact ⟨rfl, rfl⟩
end Go.Proofs.Ytgfbhclkpephnaa
