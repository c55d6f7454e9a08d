/-
  A range over a function whose iterator stores into cells of its own between two rounds ('s = s[at:]'): the law for the caller, and the form of the iterator's contract. For whatever program.
-/
import Derived.RangeFuncNested
import Derived.RangeFuncBound
import Derived.RangeFuncCalls
import Derived.RangeFuncLeaves
import Derived.Shelf.Abstract
import Derived.Shelf.RegionOpen
import Derived.WalkKit
import Derived.OwnWalkIn
import Derived.TacticsInMore
import Derived.LoopNIn
import Derived.LoopIn
import Derived.Maps.AppendAt
import Derived.Test.YtgfbhclkpephnaaProg
namespace Go.Proofs.Ytgfbhclkpephnaa
open Go.RowKit Go.Shelf
set_option linter.unusedVariables false
/-- What is said abides whatever the iterator does to its own blocks, O. -/
def AbidesO {β : Type} (O : Nat → Prop) (J : β → World → Prop) : Prop :=
  ∀ s W W' row, J s W → W.grownBy W' row → (∀ r, row = some r → O r) → J s W'
/-- The iterator's contract: all of S come; or a part, Sp, a round having said 'no more'. -/
def SeqO {α : Type} (F : Fence) (n : Nat) (P : Program) (g : Nat) (lb : Array Value) (encs : α → Array Value) (Kp : World → World → Prop) (O : Nat → Prop) (S Sp : List α → Prop) (N : Nat) (w : World) : Prop :=
  ∀ (l : Nat) (J Jx : List α → World → Prop) (W : World), Below w.heap.size w W → AbidesO O J → AbidesO O Jx →
    (∀ pre x W1, J pre W1 → pre.length < N → YieldAt F (n - 1) P l (encs x) W1 fun e W' =>
      (e = .returned (.bool true) ∧ J (pre ++ [x]) W' ∧ Kp W1 W') ∨ (e = .returned (.bool false) ∧ Jx (pre ++ [x]) W')) →
    J [] W →
    CallsIn F n P g (#[.func (.yield l) #[] #[]] ++ lb) W fun e W' => (∃ v, e = .returned v) ∧ ((∃ xs, S xs ∧ J xs W') ∨ (∃ pre, Sp pre ∧ Jx pre W'))
/-- What the caller says between two rounds: it abides the iterator's steps, and the turns of blocks of book-keeping from B on. -/
def OwnO {β : Type} (B : Nat) (O : Nat → Prop) (I : β → World → Prop) : Prop :=
  ∀ s W W' row, I s W → W.grownBy W' row → (∀ r, row = some r → O r ∨ (B ≤ r ∧ ∃ o : Obj, W.heap[r]? = some o ∧ o.isCells = false)) → I s W'
variable {F : Fence} {n : Nat} {P : Program}
theorem OwnO.from {β : Type} {B : Nat} {O : Nat → Prop} {I : β → World → Prop} (h : OwnO B O I) : OwnFrom B I := fun s W W' row hs hg hr => h s W W' row hs hg (fun r e => .inr (hr r e))
theorem OwnO.abides {β : Type} {B : Nat} {O : Nat → Prop} {I : β → World → Prop} (h : OwnO B O I) : AbidesO O I := fun s W W' row hs hg hr => h s W W' row hs hg (fun r e => .inl (hr r e))
/-! The two blocks that the statement lays for its own books: the loop's record, the rounds' deferred calls. -/
structure Books (b : Nat) (rc : LoopState → Option Code → Loop) (st : LoopState) (pe : Option Code) (W : World) : Prop where
  loop : W.heap[b + 1]? = some (.loop (rc st pe))
  defs : W.heap[b]? = some (.deferred (some []))
section
variable {b : Nat} {rc : LoopState → Option Code → Loop} {st : LoopState} {pe : Option Code} {W W' : World}
theorem Books.room (h : Books b rc st pe W) : b + 1 < W.heap.size := (Array.getElem?_eq_some_iff.1 h.loop).1
theorem Books.turned {row : Option Nat} {O : Nat → Prop} (h : Books b rc st pe W) (hg : W.grownBy W' row) (hr : ∀ r, row = some r → O r) (hO : ∀ r, O r → r < b) : Books b rc st pe W' := by
  have hl := h.room
  exact ⟨(hg.block _ hl (fun e => absurd (hO _ (hr _ e.symm)) (by omega))).trans h.loop, (hg.block _ (Nat.lt_of_succ_lt hl) (fun e => absurd (hO _ (hr _ e.symm)) (Nat.lt_irrefl _))).trans h.defs⟩
theorem Books.kept (h : Books b rc st pe W) (hk : KeepsFrom b W W') : Books b rc st pe W' :=
  ⟨hk.same _ _ (Nat.le_succ b) h.loop rfl, hk.same _ _ (Nat.le_refl b) h.defs rfl⟩
theorem Books.put (h : Books b rc st pe W) (st' : LoopState) (pe' : Option Code) : Books b rc st' pe' (W.putObj (b + 1) (.loop (rc st' pe'))) :=
  ⟨World.putObj_heap_same h.room, (World.putObj_heap_other (by omega)).trans h.defs⟩
theorem Books.said {β : Type} {I : β → World → Prop} {s : β} (h : Books b rc st pe W) (hI : OwnFrom b I) (hs : I s W) (o : Obj) : I s (W.putObj (b + 1) o) := hI.putObj o hs (Nat.le_succ b) h.loop rfl
theorem books_new (w : World) (rc : LoopState → Option Code → Loop) : Books w.heap.size rc .ready none ((w.alloc (.deferred (some []))).alloc (.loop (rc .ready none))) := by
  have h := World.alloc_heap_new (w.alloc (.deferred (some []))) (.loop (rc .ready none))
  rw [World.size_alloc] at h
  exact ⟨h, (Below.heap_alloc _ _ _ (by simp)).trans (World.alloc_heap_new w _)⟩
/-- A round's end, by the record. -/
theorem round_end (P : Program) {fn : FuncId} {tmps : Array Value} {ps : Array Tmp} {assign body : Code} (jump : Option Code)
    (h : Books b (fun st pe => { state := st, pending := pe, fn, tmps, params := ps, assign, body, defers := b }) .busy none W) :
    (Instr.endRound (b + 1) jump).run P W = .ok (.bool jump.isNone) (W.putObj (b + 1) (.loop { state := if jump.isNone then .ready else .done, pending := jump, fn, tmps, params := ps, assign, body, defers := b })) := run_endRound (P := P) jump h.loop
end
/-- The statement, by the iterator's contract. -/
theorem wpIn_rangeFunc_O {α : Type} {g : Operand} {ps : Array Tmp} {assign body : Code} {Q : Exit → Act → World → Prop} {a : Act} {w : World}
    (hro : F.round = none) (h1 : 1 ≤ n) {gf : Nat} {lb : Array Value} (hg : a.eval g = .func (.func gf) #[] lb) (hFg : F.fn gf) (eg : ∀ args w, (callFunc gf args).run P w = .ok (.enter gf args) w)
    {encs : α → Array Value} {Kp : World → World → Prop} {O : Nat → Prop} (hO : ∀ r, O r → r < w.heap.size) {S Sp : List α → Prop} {N : Nat} {w0 : World} (hseq : SeqO F (n - 1) P gf lb encs Kp O S Sp N w0)
    (hKt : ∀ {A B C : World}, Kp A B → Kp B C → Kp A C) (hKb : ∀ (W : World) (l : Nat) (o' : Obj), w.heap.size ≤ l → Kp W (W.putObj l o')) (hb0 : Below w0.heap.size w0 w) (hps : ∀ x, (encs x).size = ps.size)
    (I : List α → World → Prop) (Ix : Code → List α → World → Prop) (hI : OwnO w.heap.size O I) (hIx : ∀ c, OwnO w.heap.size O (Ix c)) (h0 : I [] w) (a₁ : α → Act)
    (hassign : ∀ (l : Nat) (x : α) (W : World) (K : Act → World → Prop), K (a₁ x) W →
      assign.wpIn (F.inRound l) (n - 1 - 1) P (Exit.then K (fun _ _ _ => False)) { tmps := (ps.zip (encs x)).foldl (fun t (p, v) => t.setIfInBounds p v) a.tmps, defers := [] } W)
    (hbody : ∀ (l : Nat) (pre : List α) (x : α) (W : World), I pre W → pre.length < N → body.wpIn (F.inRound l) (n - 1 - 1) P (ownPostG w.heap.size Kp I Ix (pre ++ [x]) W) (a₁ x) W)
    (hdone : ∀ (D : Nat) (xs : List α) (W : World), w.heap.size ≤ D → S xs → I xs W → W.heap[D]? = some (.deferred (some [])) → Q .normal { a with defers := { target := .collected D, args := #[] } :: a.defers } W)
    (hstop : ∀ (D : Nat) (c : Code) (pre : List α) (W : World), w.heap.size ≤ D → Sp pre → Ix c pre W → W.heap[D]? = some (.deferred (some [])) → c.wpIn F n P Q { a with defers := { target := .collected D, args := #[] } :: a.defers } W) :
    (Code.rangeFunc g ps assign body).wpIn F n P Q a w := by
  have KI := hI.from
  have KX := fun c => (hIx c).from
  refine wpIn_rangeFunc (fun fn hfn => ?_)
  rw [hro]
  let rc : LoopState → Option Code → Loop := fun st pe => { state := st, pending := pe, fn, tmps := a.tmps, params := ps, assign, body, defers := w.heap.size }
  have bk := books_new w rc
  have i0 : I [] ((w.alloc (.deferred (some []))).alloc (.loop (rc .ready none))) := KI.alloc _ (KI.alloc _ h0)
  have bw : Below w0.heap.size w0 ((w.alloc (.deferred (some []))).alloc (.loop (rc .ready none))) := (hb0.alloc hb0.size _).alloc (by have := hb0.size; simp; omega) _
  refine ⟨w.heap.size + 1, [{ target := .collected w.heap.size, args := #[] }], ((w.alloc (.deferred (some []))).alloc (.loop (rc .ready none))), { target := .fn (.func gf) lb, args := #[.func (.yield (w.heap.size + 1)) #[] #[]] }, ((w.alloc (.deferred (some []))).alloc (.loop (rc .ready none))), gf,
    #[.func (.yield (w.heap.size + 1)) #[] #[]] ++ lb, ((w.alloc (.deferred (some []))).alloc (.loop (rc .ready none))), run_enterLoop_outer _ _ _ _ _, ?_, ?_, ?_, fun _ => h1, ?_⟩
  · simp only [resolve, hg]
    simp [go_sem]
  · intro f' hf'
    obtain rfl : gf = f' := by simpa [Target.leads] using hf'
    exact hFg
  · simp [invoke, go_sem, eg]
  · have call := hseq (w.heap.size + 1) (fun pre W => I pre W ∧ Books w.heap.size rc .ready none W) (fun pre W => ∃ c, Ix c pre W ∧ Books w.heap.size rc .done (some c) W) _ bw
      (fun s A B row hs hr hrow => ⟨hI.abides s A B row hs.1 hr hrow, hs.2.turned hr hrow hO⟩)
      (fun s A B row ⟨c, hc, hk⟩ hr hrow => ⟨c, (hIx c).abides s A B row hc hr hrow, hk.turned hr hrow hO⟩) ?round ⟨i0, bk⟩
    case round =>
      intro pre x W ⟨hi, hk⟩ hlen
      refine ⟨fn, _, assign, body, run_yield (P := P) (args := encs x) hk.loop (hps x), roundIn_of_wpIn hfn (hassign _ x W _ ⟨_, run_beginRound hk.loop rfl, wpIn_mono (hbody _ pre x _ (hk.said KI hi _) hlen) ?_⟩)⟩
      have kb : Books w.heap.size rc .busy none (W.putObj (w.heap.size + 1) (.loop (rc .busy none))) := hk.put _ _
      have k1 : Kp W (W.putObj (w.heap.size + 1) (.loop (rc .busy none))) := hKb _ _ _ (Nat.le_succ _)
      have leave : ∀ (c : Code) (W3 : World), KeepsFrom w.heap.size (W.putObj (w.heap.size + 1) (.loop (rc .busy none))) W3 → Ix c (pre ++ [x]) W3 →
          ∃ v W4, (Instr.endRound (w.heap.size + 1) (some c)).run P W3 = .ok v W4 ∧ ((Ending.returned v = .returned (.bool true) ∧ (I (pre ++ [x]) W4 ∧ Books w.heap.size rc .ready none W4) ∧ Kp W W4) ∨ (Ending.returned v = .returned (.bool false) ∧ ∃ c, Ix c (pre ++ [x]) W4 ∧ Books w.heap.size rc .done (some c) W4)) := fun c W3 hkf hx => by
        have k3 := kb.kept hkf
        exact ⟨_, _, round_end P (some c) k3, .inr ⟨rfl, c, k3.said (KX c) hx _, k3.put .done (some c)⟩⟩
      intro e a3 W3 hp
      match e, hp with
      | .normal, ⟨hkf, hkp, hi3⟩ =>
        have k3 := kb.kept hkf
        exact ⟨_, _, round_end P none k3, .inl ⟨rfl, ⟨k3.said KI hi3 _, k3.put .ready none⟩, hKt (hKt k1 hkp) (hKb _ _ _ (Nat.le_succ _))⟩⟩
      | .ret, ⟨hkf, hx⟩ => exact leave .ret W3 hkf hx
      | .exit id, ⟨hkf, hx⟩ => exact leave (.exit id) W3 hkf hx
      | .goto t, ⟨hkf, hx⟩ => exact leave (.goto t) W3 hkf hx
      | .panic _, h => exact h.elim
      | .outgrown, h => exact h.elim
    refine call.mono ?_
    rintro e W2 ⟨⟨v, rfl⟩, (⟨xs, hS, hi, hk⟩ | ⟨pre, hSp, c, hi, hk⟩)⟩
    · exact ⟨none, _, run_endLoop (P := P) hk.loop (by simp [rc]), hdone _ xs _ (Nat.le_refl _) hS (hk.said KI hi _) ((World.putObj_heap_other (by omega)).trans hk.defs)⟩
    · exact ⟨some c, _, run_endLoop (P := P) hk.loop (by simp [rc]), hstop _ c pre _ (Nat.le_refl _) hSp (hk.said (KX c) hi _) ((World.putObj_heap_other (by omega)).trans hk.defs)⟩
end Go.Proofs.Ytgfbhclkpephnaa
