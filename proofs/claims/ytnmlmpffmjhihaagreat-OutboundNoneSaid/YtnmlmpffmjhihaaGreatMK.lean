/-
  Merged: Cut: how long a shard is; whether two lists of texts are the same (chapters 6 and 5). | Cut: Join: its closure, slices.ContainsFunc, strings.Join, strings.Trim by their contracts (chapter 6). | A range over a function whose iterator stores into cells of its own between two rounds ('s = s[at:]'): the law for the caller, and the form of the iterator's contract. For whatever program. | Cut: the iterator over a text's shards, and Cut (chapter 6).
-/
import Derived.Test.YtnmlmpffmjhihaaGreatMC
import Derived.Test.YtnmlmpffmjhihaaGreatMA
import Derived.Test.YtnmlmpffmjhihaaGreatShelf
import Derived.Shelf.SlicesE.IndexFunc
import Derived.Lib.Join
import Derived.Lib.TrimByte
import Derived.RangeFuncNested
import Derived.RangeFuncBound
import Derived.RangeFuncCalls
import Derived.RangeFuncLeaves
import Derived.Shelf.Abstract
import Derived.Shelf.RegionOpen
import Derived.WalkKit
import Derived.OwnWalkIn
import Derived.TacticsInMore
import Derived.LoopNIn
import Derived.LoopIn
import Derived.Maps.AppendAt
import Derived.Test.YtnmlmpffmjhihaaGreatProg
namespace Go.Proofs.YtnmlmpffmjhihaaGreat
open Go.RowKit
set_option linter.unusedVariables false
set_option maxRecDepth 100000
set_option maxHeartbeats 1000000
/-- How long a shard is. -/
def sizeC (n k : Int) : Int := if n < 0 ∨ k < 1 then 0 else if n.tmod k = 0 then n.tdiv k else n.tdiv k + 1
theorem tdiv_small {n k : Int} (h0 : 0 ≤ n) (h1 : n ≤ 9223372036854775807) (hk : 1 ≤ k) : 0 ≤ n.tdiv k ∧ n.tdiv k ≤ n ∧ (n.tmod k ≠ 0 → n.tdiv k < n) ∧ 0 ≤ n.tmod k := by
  have e1 : n.tdiv k = n / k := Int.tdiv_eq_ediv_of_nonneg h0
  have e2 : n.tmod k = n % k := Int.tmod_eq_emod_of_nonneg h0
  rw [e1, e2]
  have h2 := Int.ediv_nonneg h0 (show 0 ≤ k by omega)
  have h3 := Int.ediv_le_self k h0
  refine ⟨h2, h3, fun hne => ?_, Int.emod_nonneg _ (by omega)⟩
  have h4 := Int.mul_ediv_add_emod n k
  have h5 := Int.emod_nonneg n (show k ≠ 0 by omega)
  have h6 : n / k ≤ k * (n / k) := by
    have := Int.mul_le_mul_of_nonneg_right hk h2
    omega
  omega
theorem size1_c (n k : Int) (hn : -9223372036854775808 ≤ n ∧ n ≤ 9223372036854775807) (hk : -9223372036854775808 ≤ k ∧ k ≤ 9223372036854775807) (w : World) :
    Calls Tryz.prog 74 #[.int .i64 n, .int .i64 k] w (fun e w' => e = .returned (.int .i64 (sizeC n k)) ∧ w' = w) := by
  by_cases h0 : n < 0
  · have e : sizeC n k = 0 := by unfold sizeC; rw [if_pos (.inl h0)]
    rw [e]
    clear e
    go_enter Tryz.func74, Tryz.ntmps74
    go_wp2_with fail
    go_ret
    exact ⟨rfl, rfl⟩
  · by_cases h1 : k < 1
    · have e : sizeC n k = 0 := by unfold sizeC; rw [if_pos (.inr h1)]
      rw [e]
      clear e
      go_enter Tryz.func74, Tryz.ntmps74
      go_wp2_with fail
      go_ret
      exact ⟨rfl, rfl⟩
    · have e : sizeC n k = if n.tmod k = 0 then n.tdiv k else n.tdiv k + 1 := by unfold sizeC; rw [if_neg (by omega)]
      obtain ⟨g1, g2, g3, g4⟩ := tdiv_small (n := n) (k := k) (by omega) hn.2 (by omega)
      have hz : ¬ k = 0 := by omega
      have hz' : (k == 0) = false := by simp [hz]
      rw [e]
      clear e
      have d1 : n / k = n.tdiv k := (Int.tdiv_eq_ediv_of_nonneg (by omega)).symm
      have d2 : n % k = n.tmod k := (Int.tmod_eq_emod_of_nonneg (by omega)).symm
      obtain ⟨q, hq⟩ : ∃ q, n.tdiv k = q := ⟨_, rfl⟩
      obtain ⟨r, hr⟩ : ∃ r, n.tmod k = r := ⟨_, rfl⟩
      rw [hq] at d1 g1 g2 g3 ⊢
      rw [hr] at d2 g3 g4 ⊢
      have hw : wrap64 q = q := IntWalk.wrap64_in _ (by omega)
      by_cases h2 : r = 0
      · subst h2
        rw [if_pos rfl]
        go_enter Tryz.func74, Tryz.ntmps74
        go_wp2_with fail
        go_ret
        exact ⟨rfl, rfl⟩
      · have h3 : 0 < r := by omega
        have h4 := g3 h2
        have hw1 : wrap64 (q + 1) = q + 1 := IntWalk.wrap64_in _ (by omega)
        rw [if_neg h2]
        clear g3
        go_enter Tryz.func74, Tryz.ntmps74
        go_wp2_with fail
        go_ret
        exact ⟨rfl, rfl⟩
end Go.Proofs.YtnmlmpffmjhihaaGreat
namespace Go.Proofs.YtnmlmpffmjhihaaGreat
open Go.RowKit
set_option linter.unusedVariables false
set_option maxRecDepth 100000
set_option maxHeartbeats 1000000
/-- The text of shards, or the error. -/
def joinC (ts : List (List UInt8)) (len : Int) : List UInt8 × Int :=
  if ts = [] then ([], 1) else if ts.any (fun t => decide (t.length ≠ (ts.headD []).length)) then ([], 16)
  else if len < 0 ∨ len > (ts.flatten.length : Int) then ([], 2)
  else if (ts.flatten.drop len.toNat).all (· == 0) then (ts.flatten.take len.toNat, 0) else ([], 5)
theorem trim_nil (l : List UInt8) : Lib.trimB l 0 = [] ↔ l.all (· == 0) = true := by
  unfold Lib.trimB Lib.trimLeftB Lib.trimRightB
  constructor
  · intro h
    have h1 : ∀ (l : List UInt8), l.dropWhile (· == 0) = [] → ∀ x ∈ l, (x == 0) = true := fun l hl x hx => by
      induction l with
      | nil => cases hx
      | cons a l ih =>
        rw [List.dropWhile_cons] at hl
        split at hl
        · rename_i ha
          rcases List.mem_cons.1 hx with rfl | hx
          · exact ha
          · exact ih hl hx
        · cases hl
    have h2 := h1 _ h
    have h3 : l.reverse.dropWhile (· == 0) = [] := by
      cases hd : l.reverse.dropWhile (· == 0) with
      | nil => rfl
      | cons a r =>
        have h4 := h2 a (by rw [hd]; simp)
        have h5 : (l.reverse.dropWhile (· == 0)).head? = some a := by rw [hd]; rfl
        have h6 := List.head?_dropWhile_not (p := (· == (0 : UInt8))) (l := l.reverse)
        rw [hd] at h6
        simp at h6
        simp at h4
        exact absurd h4 h6
    rw [List.all_eq_true]
    intro x hx
    exact h1 _ h3 x (by simpa using hx)
  · intro h
    rw [List.all_eq_true] at h
    have h1 : ∀ (l : List UInt8), (∀ x ∈ l, (x == 0) = true) → l.dropWhile (· == 0) = [] := fun l hl => by
      induction l with
      | nil => rfl
      | cons a l ih => rw [List.dropWhile_cons, if_pos (hl a (by simp))]; exact ih (fun x hx => hl x (by simp [hx]))
    rw [h1 l.reverse (fun x hx => h x (by simpa using hx))]
    rfl
theorem map_strs (ts : List (List UInt8)) : (ts.map fun t => (⟨t.toArray⟩ : ByteArray)).map (fun x => x.data.toList) = ts := by
  rw [List.map_map]
  conv => rhs; rw [← List.map_id ts]
  exact List.map_congr_left (fun t _ => by simp)
theorem join_flat (ts : List (List UInt8)) : Lib.join ts [] = ts.flatten := by
  match ts with
  | [] => rfl
  | x :: r =>
    rw [Lib.join_cons]
    unfold Lib.joinTail
    simp
theorem str_beq_c (a b : List UInt8) : ((⟨a.toArray⟩ : ByteArray).toList == (⟨b.toArray⟩ : ByteArray).toList) = decide (a = b) := by
  rw [ByteArray.toList_eq, ByteArray.toList_eq]
  show (a == b) = decide (a = b)
  by_cases h : a = b <;> simp [h]
end Go.Proofs.YtnmlmpffmjhihaaGreat
namespace Go.Proofs.YtnmlmpffmjhihaaGreat
open Go.RowKit Go.Shelf
set_option linter.unusedVariables false
/-- What is said abides whatever the iterator does to its own blocks, O. -/
def AbidesO {β : Type} (O : Nat → Prop) (J : β → World → Prop) : Prop :=
  ∀ s W W' row, J s W → W.grownBy W' row → (∀ r, row = some r → O r) → J s W'
/-- The iterator's contract: all of S come; or a part, Sp, a round having said 'no more'. -/
def SeqO {α : Type} (F : Fence) (n : Nat) (P : Program) (g : Nat) (lb : Array Value) (encs : α → Array Value) (Kp : World → World → Prop) (O : Nat → Prop) (S Sp : List α → Prop) (N : Nat) (w : World) : Prop :=
  ∀ (l : Nat) (J Jx : List α → World → Prop) (W : World), Below w.heap.size w W → AbidesO O J → AbidesO O Jx →
    (∀ pre x W1, J pre W1 → pre.length < N → YieldAt F (n - 1) P l (encs x) W1 fun e W' =>
      (e = .returned (.bool true) ∧ J (pre ++ [x]) W' ∧ Kp W1 W') ∨ (e = .returned (.bool false) ∧ Jx (pre ++ [x]) W')) →
    J [] W →
    CallsIn F n P g (#[.func (.yield l) #[] #[]] ++ lb) W fun e W' => (∃ v, e = .returned v) ∧ ((∃ xs, S xs ∧ J xs W') ∨ (∃ pre, Sp pre ∧ Jx pre W'))
/-- What the caller says between two rounds: it abides the iterator's steps, and the turns of blocks of book-keeping from B on. -/
def OwnO {β : Type} (B : Nat) (O : Nat → Prop) (I : β → World → Prop) : Prop :=
  ∀ s W W' row, I s W → W.grownBy W' row → (∀ r, row = some r → O r ∨ (B ≤ r ∧ ∃ o : Obj, W.heap[r]? = some o ∧ o.isCells = false)) → I s W'
variable {F : Fence} {n : Nat} {P : Program}
theorem OwnO.from {β : Type} {B : Nat} {O : Nat → Prop} {I : β → World → Prop} (h : OwnO B O I) : OwnFrom B I := fun s W W' row hs hg hr => h s W W' row hs hg (fun r e => .inr (hr r e))
theorem OwnO.abides {β : Type} {B : Nat} {O : Nat → Prop} {I : β → World → Prop} (h : OwnO B O I) : AbidesO O I := fun s W W' row hs hg hr => h s W W' row hs hg (fun r e => .inl (hr r e))
/-! The two blocks that the statement lays for its own books: the loop's record, the rounds' deferred calls. -/
structure Books (b : Nat) (rc : LoopState → Option Code → Loop) (st : LoopState) (pe : Option Code) (W : World) : Prop where
  loop : W.heap[b + 1]? = some (.loop (rc st pe))
  defs : W.heap[b]? = some (.deferred (some []))
section
variable {b : Nat} {rc : LoopState → Option Code → Loop} {st : LoopState} {pe : Option Code} {W W' : World}
theorem Books.room (h : Books b rc st pe W) : b + 1 < W.heap.size := (Array.getElem?_eq_some_iff.1 h.loop).1
theorem Books.turned {row : Option Nat} {O : Nat → Prop} (h : Books b rc st pe W) (hg : W.grownBy W' row) (hr : ∀ r, row = some r → O r) (hO : ∀ r, O r → r < b) : Books b rc st pe W' := by
  have hl := h.room
  exact ⟨(hg.block _ hl (fun e => absurd (hO _ (hr _ e.symm)) (by omega))).trans h.loop, (hg.block _ (Nat.lt_of_succ_lt hl) (fun e => absurd (hO _ (hr _ e.symm)) (Nat.lt_irrefl _))).trans h.defs⟩
theorem Books.kept (h : Books b rc st pe W) (hk : KeepsFrom b W W') : Books b rc st pe W' :=
  ⟨hk.same _ _ (Nat.le_succ b) h.loop rfl, hk.same _ _ (Nat.le_refl b) h.defs rfl⟩
theorem Books.put (h : Books b rc st pe W) (st' : LoopState) (pe' : Option Code) : Books b rc st' pe' (W.putObj (b + 1) (.loop (rc st' pe'))) :=
  ⟨World.putObj_heap_same h.room, (World.putObj_heap_other (by omega)).trans h.defs⟩
theorem Books.said {β : Type} {I : β → World → Prop} {s : β} (h : Books b rc st pe W) (hI : OwnFrom b I) (hs : I s W) (o : Obj) : I s (W.putObj (b + 1) o) := hI.putObj o hs (Nat.le_succ b) h.loop rfl
theorem books_new (w : World) (rc : LoopState → Option Code → Loop) : Books w.heap.size rc .ready none ((w.alloc (.deferred (some []))).alloc (.loop (rc .ready none))) := by
  have h := World.alloc_heap_new (w.alloc (.deferred (some []))) (.loop (rc .ready none))
  rw [World.size_alloc] at h
  exact ⟨h, (Below.heap_alloc _ _ _ (by simp)).trans (World.alloc_heap_new w _)⟩
/-- A round's end, by the record. -/
theorem round_end (P : Program) {fn : FuncId} {tmps : Array Value} {ps : Array Tmp} {assign body : Code} (jump : Option Code)
    (h : Books b (fun st pe => { state := st, pending := pe, fn, tmps, params := ps, assign, body, defers := b }) .busy none W) :
    (Instr.endRound (b + 1) jump).run P W = .ok (.bool jump.isNone) (W.putObj (b + 1) (.loop { state := if jump.isNone then .ready else .done, pending := jump, fn, tmps, params := ps, assign, body, defers := b })) := run_endRound (P := P) jump h.loop
end
/-- The statement, by the iterator's contract. -/
theorem wpIn_rangeFunc_O {α : Type} {g : Operand} {ps : Array Tmp} {assign body : Code} {Q : Exit → Act → World → Prop} {a : Act} {w : World}
    (hro : F.round = none) (h1 : 1 ≤ n) {gf : Nat} {lb : Array Value} (hg : a.eval g = .func (.func gf) #[] lb) (hFg : F.fn gf) (eg : ∀ args w, (callFunc gf args).run P w = .ok (.enter gf args) w)
    {encs : α → Array Value} {Kp : World → World → Prop} {O : Nat → Prop} (hO : ∀ r, O r → r < w.heap.size) {S Sp : List α → Prop} {N : Nat} {w0 : World} (hseq : SeqO F (n - 1) P gf lb encs Kp O S Sp N w0)
    (hKt : ∀ {A B C : World}, Kp A B → Kp B C → Kp A C) (hKb : ∀ (W : World) (l : Nat) (o' : Obj), w.heap.size ≤ l → Kp W (W.putObj l o')) (hb0 : Below w0.heap.size w0 w) (hps : ∀ x, (encs x).size = ps.size)
    (I : List α → World → Prop) (Ix : Code → List α → World → Prop) (hI : OwnO w.heap.size O I) (hIx : ∀ c, OwnO w.heap.size O (Ix c)) (h0 : I [] w) (a₁ : α → Act)
    (hassign : ∀ (l : Nat) (x : α) (W : World) (K : Act → World → Prop), K (a₁ x) W →
      assign.wpIn (F.inRound l) (n - 1 - 1) P (Exit.then K (fun _ _ _ => False)) { tmps := (ps.zip (encs x)).foldl (fun t (p, v) => t.setIfInBounds p v) a.tmps, defers := [] } W)
    (hbody : ∀ (l : Nat) (pre : List α) (x : α) (W : World), I pre W → pre.length < N → body.wpIn (F.inRound l) (n - 1 - 1) P (ownPostG w.heap.size Kp I Ix (pre ++ [x]) W) (a₁ x) W)
    (hdone : ∀ (D : Nat) (xs : List α) (W : World), w.heap.size ≤ D → S xs → I xs W → W.heap[D]? = some (.deferred (some [])) → Q .normal { a with defers := { target := .collected D, args := #[] } :: a.defers } W)
    (hstop : ∀ (D : Nat) (c : Code) (pre : List α) (W : World), w.heap.size ≤ D → Sp pre → Ix c pre W → W.heap[D]? = some (.deferred (some [])) → c.wpIn F n P Q { a with defers := { target := .collected D, args := #[] } :: a.defers } W) :
    (Code.rangeFunc g ps assign body).wpIn F n P Q a w := by
  have KI := hI.from
  have KX := fun c => (hIx c).from
  refine wpIn_rangeFunc (fun fn hfn => ?_)
  rw [hro]
  let rc : LoopState → Option Code → Loop := fun st pe => { state := st, pending := pe, fn, tmps := a.tmps, params := ps, assign, body, defers := w.heap.size }
  have bk := books_new w rc
  have i0 : I [] ((w.alloc (.deferred (some []))).alloc (.loop (rc .ready none))) := KI.alloc _ (KI.alloc _ h0)
  have bw : Below w0.heap.size w0 ((w.alloc (.deferred (some []))).alloc (.loop (rc .ready none))) := (hb0.alloc hb0.size _).alloc (by have := hb0.size; simp; omega) _
  refine ⟨w.heap.size + 1, [{ target := .collected w.heap.size, args := #[] }], ((w.alloc (.deferred (some []))).alloc (.loop (rc .ready none))), { target := .fn (.func gf) lb, args := #[.func (.yield (w.heap.size + 1)) #[] #[]] }, ((w.alloc (.deferred (some []))).alloc (.loop (rc .ready none))), gf,
    #[.func (.yield (w.heap.size + 1)) #[] #[]] ++ lb, ((w.alloc (.deferred (some []))).alloc (.loop (rc .ready none))), run_enterLoop_outer _ _ _ _ _, ?_, ?_, ?_, fun _ => h1, ?_⟩
  · simp only [resolve, hg]
    simp [go_sem]
  · intro f' hf'
    obtain rfl : gf = f' := by simpa [Target.leads] using hf'
    exact hFg
  · simp [invoke, go_sem, eg]
  · have call := hseq (w.heap.size + 1) (fun pre W => I pre W ∧ Books w.heap.size rc .ready none W) (fun pre W => ∃ c, Ix c pre W ∧ Books w.heap.size rc .done (some c) W) _ bw
      (fun s A B row hs hr hrow => ⟨hI.abides s A B row hs.1 hr hrow, hs.2.turned hr hrow hO⟩)
      (fun s A B row ⟨c, hc, hk⟩ hr hrow => ⟨c, (hIx c).abides s A B row hc hr hrow, hk.turned hr hrow hO⟩) ?round ⟨i0, bk⟩
    case round =>
      intro pre x W ⟨hi, hk⟩ hlen
      refine ⟨fn, _, assign, body, run_yield (P := P) (args := encs x) hk.loop (hps x), roundIn_of_wpIn hfn (hassign _ x W _ ⟨_, run_beginRound hk.loop rfl, wpIn_mono (hbody _ pre x _ (hk.said KI hi _) hlen) ?_⟩)⟩
      have kb : Books w.heap.size rc .busy none (W.putObj (w.heap.size + 1) (.loop (rc .busy none))) := hk.put _ _
      have k1 : Kp W (W.putObj (w.heap.size + 1) (.loop (rc .busy none))) := hKb _ _ _ (Nat.le_succ _)
      have leave : ∀ (c : Code) (W3 : World), KeepsFrom w.heap.size (W.putObj (w.heap.size + 1) (.loop (rc .busy none))) W3 → Ix c (pre ++ [x]) W3 →
          ∃ v W4, (Instr.endRound (w.heap.size + 1) (some c)).run P W3 = .ok v W4 ∧ ((Ending.returned v = .returned (.bool true) ∧ (I (pre ++ [x]) W4 ∧ Books w.heap.size rc .ready none W4) ∧ Kp W W4) ∨ (Ending.returned v = .returned (.bool false) ∧ ∃ c, Ix c (pre ++ [x]) W4 ∧ Books w.heap.size rc .done (some c) W4)) := fun c W3 hkf hx => by
        have k3 := kb.kept hkf
        exact ⟨_, _, round_end P (some c) k3, .inr ⟨rfl, c, k3.said (KX c) hx _, k3.put .done (some c)⟩⟩
      intro e a3 W3 hp
      match e, hp with
      | .normal, ⟨hkf, hkp, hi3⟩ =>
        have k3 := kb.kept hkf
        exact ⟨_, _, round_end P none k3, .inl ⟨rfl, ⟨k3.said KI hi3 _, k3.put .ready none⟩, hKt (hKt k1 hkp) (hKb _ _ _ (Nat.le_succ _))⟩⟩
      | .ret, ⟨hkf, hx⟩ => exact leave .ret W3 hkf hx
      | .exit id, ⟨hkf, hx⟩ => exact leave (.exit id) W3 hkf hx
      | .goto t, ⟨hkf, hx⟩ => exact leave (.goto t) W3 hkf hx
      | .panic _, h => exact h.elim
      | .outgrown, h => exact h.elim
    refine call.mono ?_
    rintro e W2 ⟨⟨v, rfl⟩, (⟨xs, hS, hi, hk⟩ | ⟨pre, hSp, c, hi, hk⟩)⟩
    · exact ⟨none, _, run_endLoop (P := P) hk.loop (by simp [rc]), hdone _ xs _ (Nat.le_refl _) hS (hk.said KI hi _) ((World.putObj_heap_other (by omega)).trans hk.defs)⟩
    · exact ⟨some c, _, run_endLoop (P := P) hk.loop (by simp [rc]), hstop _ c pre _ (Nat.le_refl _) hSp (hk.said (KX c) hi _) ((World.putObj_heap_other (by omega)).trans hk.defs)⟩
end Go.Proofs.YtnmlmpffmjhihaaGreat
namespace Go.Proofs.YtnmlmpffmjhihaaGreat
open Go.RowKit
set_option linter.unusedVariables false
set_option maxRecDepth 100000
set_option maxHeartbeats 2000000
attribute [local go_sem] Oper.semAt_some
/-- Shard i of a text. -/
def partC (s : List UInt8) (n i : Nat) : List UInt8 := (s.drop (i * n)).take n ++ List.replicate (n - (s.drop (i * n)).length) 0
def partsC (s : List UInt8) (n k : Nat) : List (List UInt8) := (List.range k).map (partC s n)
theorem partsC_succ (s : List UInt8) (n k : Nat) : partsC s n (k + 1) = partsC s n k ++ [partC s n k] := by simp [partsC, List.range_succ]
theorem rest_succ (s : List UInt8) (n i : Nat) : (s.drop (i * n)).drop (min n (s.drop (i * n)).length) = s.drop ((i + 1) * n) := by
  rw [Nat.succ_mul, ← List.drop_drop]
  by_cases h : n ≤ (s.drop (i * n)).length
  · rw [Nat.min_eq_left h]
  · rw [Nat.min_eq_right (by omega), List.drop_length, List.drop_of_length_le (by omega)]
theorem part_min (s : List UInt8) (n i : Nat) : partC s n i = (s.drop (i * n)).take (min n (s.drop (i * n)).length) ++ List.replicate (n - min n (s.drop (i * n)).length) 0 := by
  unfold partC
  by_cases h : n ≤ (s.drop (i * n)).length
  · rw [Nat.min_eq_left h, show n - (s.drop (i * n)).length = 0 by omega, Nat.sub_self]
  · rw [Nat.min_eq_right (by omega), List.take_of_length_le (by omega), List.take_of_length_le (Nat.le_refl _)]
/-- What a round keeps: the iterator's three boxes. -/
def KpC (b : Nat) (A B : World) : Prop := A.heap.size ≤ B.heap.size ∧ ∀ r, b ≤ r → r < b + 3 → B.heap[r]? = A.heap[r]?
theorem KpC.trans {b : Nat} {A B C : World} (h : KpC b A B) (k : KpC b B C) : KpC b A C := ⟨Nat.le_trans h.1 k.1, fun r h1 h2 => (k.2 r h1 h2).trans (h.2 r h1 h2)⟩
theorem KpC.blk {b r : Nat} {A B : World} (h : KpC b A B) {cs : Array Value} {t : TypeId} (hb : Blk A r cs t) (h1 : b ≤ r) (h2 : r < b + 3) : Blk B r cs t := (h.2 r h1 h2).trans hb
theorem grown_of_below {a b : World} (h : Below a.heap.size a b) : a.grownBy b none := ⟨h.os, h.tape, h.output, h.size, fun k hk _ => h.block k hk⟩
theorem rep_c (m : Nat) (w : World) (hm : m ≤ 100000) : Calls Tryz.prog 87 #[.string ⟨#[0]⟩, .int .i64 (m : Nat)] w fun e w' => e = .returned (Str (List.replicate m 0)) ∧ Below w.heap.size w w' := by
  have := Tryz.strings_Repeat ⟨#[0]⟩ m w (by omega) (by show 1 * m ≤ _; omega)
  have e1 : Lib.repeatL ((⟨#[0]⟩ : ByteArray).data.toList) m = List.replicate m 0 := by
    have := Lib.repeatL_replicate 0 1 m
    rw [Nat.mul_one] at this
    exact this
  rw [e1] at this
  exact this
theorem app_c (x y : List UInt8) : (⟨x.toArray⟩ ++ ⟨y.toArray⟩ : ByteArray) = ⟨(x ++ y).toArray⟩ := ByteArray.mk_append_mk x y
/-- All that a round reckons. -/
theorem round_c (s : List UInt8) (n i : Nat) (R : List UInt8) (hR : s.drop (i * n) = R) (hn : n ≤ 100000) (hs : s.length ≤ 1000000000) : ∃ (M m : Nat) (X Z : List UInt8),
    min (n : Int) (R.length : Int) = (M : Int) ∧ (0 : Int) ≤ (M : Int) ∧ (M : Int) ≤ (R.length : Int) ∧ (n : Int) - (M : Int) = (m : Int) ∧ wrap64 (m : Int) = (m : Int) ∧ IntKind.i64.wrap (m : Int) = (m : Int) ∧
    (⟨R.toArray⟩ : ByteArray).extract 0 M = ⟨X.toArray⟩ ∧ X.length ≤ 100000 ∧ Z.length ≤ 100000 ∧ Hid (partC s n i = X ++ Z) ∧ Hid (R.drop M = s.drop ((i + 1) * n)) ∧
    Hid (∀ w, Calls Tryz.prog 87 #[.string ⟨#[0]⟩, .int .i64 (m : Nat)] w fun e w' => e = .returned (Str Z) ∧ Below w.heap.size w w') := by
  have hp := part_min s n i
  have hr := rest_succ s n i
  rw [hR] at hp hr
  refine ⟨min n R.length, n - min n R.length, R.take (min n R.length), List.replicate (n - min n R.length) 0, by omega, by omega, by omega, by omega, IntWalk.wrap64_in _ (by omega), IntWalk.i64_in _ (by omega), ?_, ?_, ?_, Lib.hid hp, Lib.hid hr, Lib.hid (fun w => rep_c _ w (by omega))⟩
  · rw [ext_list, List.drop_zero]
  · simp; omega
  · simp; omega
theorem it_c (b : Nat) (s : List UInt8) (k n : Nat) (hk : k ≤ 1000) (hn : n ≤ 100000) (hs : s.length ≤ 1000000000) (w0 : World) (hK : Blk w0 (b + 1) #[.int .i64 (k : Nat)] 3) (hN : Blk w0 (b + 2) #[.int .i64 (n : Nat)] 3) (hS : Blk w0 b #[Str s] 9) :
    SeqO Fence.wide 2 Tryz.prog 86 #[.pointer (some ⟨b + 1, 0, none⟩), .pointer (some ⟨b + 2, 0, none⟩), .pointer (some ⟨b, 0, none⟩)] (fun x : List UInt8 => #[Str x]) (KpC b) (fun r => r = b) (fun ys => ys = partsC s n k) (fun _ => True) k w0 := by
  intro l J Jx W hW hJ hJx hY h0
  have hK1 : Blk W (b + 1) #[.int .i64 (k : Nat)] 3 := hK.below hW hK.lt
  have hN1 : Blk W (b + 2) #[.int .i64 (n : Nat)] 3 := hN.below hW hN.lt
  have hS1 : Blk W b #[Str s] 9 := hS.below hW hS.lt
  clear hK hN hS hW
  obtain ⟨c1, f1, l1⟩ := hK1.facts
  refine callsIn_of_wp Tryz.func86 rfl trivial ?_ rfl
  simp only [Tryz.ntmps86, List.size_toArray, List.length_cons, List.length_nil, Nat.reduceAdd, Nat.reduceSub, Array.replicate_succ, Array.replicate_zero, List.push_toArray, List.append_toArray, List.nil_append, List.cons_append]
  gi_wp2
  have HY := Lib.hid hY
  have HK := Lib.hid hK1
  clear hY c1 f1 l1 hK1
  gi_loopw [8] (fun p wr => ∃ i : Nat, i ≤ k ∧ p = .int .i64 (i : Nat) ∧ J (partsC s n i) wr ∧ Hid (Blk wr (b + 2) #[.int .i64 (n : Nat)] 3) ∧ Hid (Blk wr b #[Str (s.drop (i * n))] 9)) (fun p _ => k - (intOf p).toNat)
  case atStart =>
    exact ⟨0, Nat.zero_le _, rfl, h0, Lib.hid hN1, Lib.hid (by simpa using hS1)⟩
  case round =>
    obtain ⟨i, hi, rfl, hJi, HN, HS⟩ := hrel
    clear hN1 hS1
    by_cases hlt : i < k
    · obtain ⟨R, hR⟩ : ∃ R, s.drop (i * n) = R := ⟨_, rfl⟩
      rw [hR] at HS
      have hRl : R.length ≤ 1000000000 := by rw [← hR]; simp; omega
      obtain ⟨M, m, X, Z, hMi, hM3, hM4, hM5, hM6, hM7, hex, hX, hZ, HP, HR, HRep⟩ := round_c s n i R hR hn hs
      have HJ := Lib.hid hJi
      have hap := app_c
      clear hR hJi
      have hs5 : ¬ 9223372036854775807 < X.length + Z.length := by omega
      have hlt' : (i : Int) < (k : Int) := by omega
      obtain ⟨c2, f2, l2⟩ := HN.out.facts
      obtain ⟨c3, f3, l3⟩ := HS.out.facts
      gi_wp2
      have hmk : ∀ w', Below wr.heap.size wr w' → ((w'.cell? ⟨b + 2, 0, none⟩ = some (.int .i64 (n : Nat)) ∧ w'.cell? ⟨b, 0, none⟩ = some (Str R)) ∧ Below wr.heap.size wr w') := fun w' h =>
        ⟨⟨(h.cell (p := ⟨b + 2, 0, none⟩) l2).trans (c2 0), (h.cell (p := ⟨b, 0, none⟩) l3).trans (c3 0)⟩, h⟩
      have HMK := Lib.hid hmk
      clear hmk c2 c3 f2 f3
      refine wpIn_wide.2 ?_
      go_region_held3 (fun w' => (w'.cell? ⟨b + 2, 0, none⟩ = some (.int .i64 (n : Nat)) ∧ w'.cell? ⟨b, 0, none⟩ = some (Str R)) ∧ Below wr.heap.size wr w')
        (first
          | exact HMK.out _ (Below.refl _ _).drew
          | exact HMK.out _ (Below.refl _ _)
          | (go_split_ands; exact HMK.out _ (Below.chain hb (by first | assumption | exact (Below.refl _ _).drew | exact Below.refl _ _))))
        ((go_at_call 87; refine (HRep.out _).mono ?_; rintro x w3 ⟨rfl, hb⟩))
      rename_i hHeld
      obtain ⟨_, hbb⟩ := hHeld
      have hJ3 := hJ _ _ _ _ HJ.out (grown_of_below hbb) (fun r e => by cases e)
      have hN3 := HN.out.below hbb HN.out.lt
      have hS3 := HS.out.below hbb HS.out.lt
      clear hb hbb
      obtain ⟨fn, tmps, assign, body, hy, hR⟩ := HY.out _ (X ++ Z) w3 hJ3 (by simp [partsC]; omega)
      gi_wp2
      refine hR.mono ?_
      rintro e W4 (⟨rfl, hJ4, hk4⟩ | ⟨rfl, hJx4⟩)
      · have hN4 := hk4.blk hN3 (by omega) (by omega)
        have hS4 := hk4.blk hS3 (by omega) (by omega)
        have HN4 := Lib.hid hN4
        have HJ4 := Lib.hid hJ4
        clear hN4 hJ4 hk4 hN3 hS3 hJ3 hy hR
        obtain ⟨c5, f5, l5⟩ := hS4.facts
        gi_wp2
        have e : (⟨R.toArray⟩ : ByteArray).extract M R.length = ⟨(s.drop ((i + 1) * n)).toArray⟩ := by rw [ext_list, List.take_length, HR.out]
        rw [e]
        refine ⟨⟨i + 1, hlt, by go_num, ?_, ?_, ?_⟩, by simp [intOf]; omega⟩
        · rw [partsC_succ, HP.out]
          exact hJ _ _ _ (some b) HJ4.out (grownBy_setCell' W4 b _) (fun r e => by cases e; rfl)
        · exact Lib.hid (HN4.out.setOther _ _ (by simp))
        · exact Lib.hid (Blk.setAt hS4 0 _ rfl)
      · gi_wp2
        refine bodyPost_ret (results_none rfl _ _ _) rfl ?_
        exact ⟨⟨_, rfl⟩, .inr ⟨_, trivial, hJx4⟩⟩
    · obtain rfl : i = k := by omega
      have hlt' : ¬ (i : Int) < (i : Int) := by omega
      gi_wp2
      go_end0
      exact ⟨⟨_, rfl⟩, .inl hJi⟩
theorem shards_c (s : List UInt8) (k n : Nat) (w : World) : Calls Tryz.prog 73 #[Str s, .int .i64 (k : Nat), .int .i64 (n : Nat)] w fun e w' =>
    e = .returned (.func (.func 86) #[] #[.pointer (some ⟨w.heap.size + 1, 0, none⟩), .pointer (some ⟨w.heap.size + 2, 0, none⟩), .pointer (some ⟨w.heap.size, 0, none⟩)]) ∧
    Blk w' w.heap.size #[Str s] 9 ∧ Blk w' (w.heap.size + 1) #[.int .i64 (k : Nat)] 3 ∧ Blk w' (w.heap.size + 2) #[.int .i64 (n : Nat)] 3 ∧ Below w.heap.size w w' ∧ w'.heap.size = w.heap.size + 3 := by
  have h1 := Blk.new w #[Str s] 9
  have h2 := Blk.newAt (w := w.alloc (.cells #[Str s] 9)) (n := w.heap.size + 1) (cs := #[.int .i64 (k : Nat)]) (t := 3) (by simp)
  have h3 := Blk.newAt (w := (w.alloc (.cells #[Str s] 9)).alloc (.cells #[.int .i64 (k : Nat)] 3)) (n := w.heap.size + 2) (cs := #[.int .i64 (n : Nat)]) (t := 3) (by simp)
  have hB : Below w.heap.size w (((w.alloc (.cells #[Str s] 9)).alloc (.cells #[.int .i64 (k : Nat)] 3)).alloc (.cells #[.int .i64 (n : Nat)] 3)) := (((Below.refl _ w).alloc (Nat.le_refl _) _).alloc (by simp) _).alloc (by simp; omega) _
  have HH := Lib.hid (And.intro ((h1.alloc (.cells #[.int .i64 (k : Nat)] 3)).alloc (.cells #[.int .i64 (n : Nat)] 3)) (And.intro (h2.alloc (.cells #[.int .i64 (n : Nat)] 3)) (And.intro h3 hB)))
  clear h1 h2 h3 hB
  go_enter Tryz.func73, Tryz.ntmps73
  go_wp2_with fail
  go_ret
  exact ⟨rfl, HH.out.1, HH.out.2.1, HH.out.2.2.1, HH.out.2.2.2, by simp⟩
theorem infoStr : (Tryz.prog.info? 9).map (fun i => (i.zero, i.size, i.bytes)) = some (some (Str []), 1, 16) := by kernel_rfl
theorem owns_low {W : World} {base base' : Nat} {e : TypeId} {size : Nat} {v : Value} {n : Nat} {xs : List Value} (h : W.ownsRow base e size v n xs) (hb : base' ≤ base) : W.ownsRow base' e size v n xs :=
  ⟨h.1, h.2.imp id (fun ⟨g, cap, cur, hv, hg, r⟩ => ⟨g, cap, cur, hv, Nat.le_trans hb hg, r⟩)⟩
theorem owns_blk {W : World} {base : Nat} {e : TypeId} {size : Nat} {v : Value} {n : Nat} {xs : List Value} (h : W.ownsRow base e size v n xs) : ∀ g, v.ownBlock = some g → base ≤ g ∧ ∃ o : Obj, W.heap[g]? = some o ∧ o.isCells = true := fun g hg => by
  rcases h.2 with ⟨rfl, _⟩ | ⟨g', cap, cur, rfl, hb, hh, _⟩
  · cases hg
  · obtain rfl : g' = g := by simpa [Value.ownBlock] using hg
    exact ⟨hb, _, hh, rfl⟩
theorem owns_slAt {W : World} {base B : Nat} {e : TypeId} {v : Value} {n : Nat} {xs : List Value} (h : W.ownsRow base e 1 v n xs) : SlAt B W e v xs := by
  obtain ⟨h1, h2⟩ := h
  rw [Nat.mul_one] at h1
  rcases h2 with ⟨rfl, rfl⟩ | ⟨g, cap, cur, rfl, hb, hh, hc, hm, hs, ht⟩
  · obtain rfl := List.eq_nil_of_length_eq_zero h1
    exact SlAt.nil _ _ _
  · refine ⟨_, cap, by rw [h1], by omega, hm, .inr ⟨g, 0, rfl, (Array.getElem?_eq_some_iff.1 hh).1, .inr ⟨_, _, hh⟩, fun j hj => ?_⟩⟩
    have hb : Blk W g cur e := hh
    rw [Nat.zero_add, hb.facts.1 j]
    subst ht
    simp at hj
    simp
/-- What stands between two rounds. -/
def InvC (w : World) (pre : List (List UInt8)) (W : World) : Prop :=
  (∃ v, Boxed W w.heap.size 60 v ∧ W.ownsRow (w.heap.size + 4) 9 1 v pre.length (pre.map Str)) ∧ Below w.heap.size w W ∧ w.heap.size + 4 ≤ W.heap.size
theorem inv_own (w : World) (B : Nat) (hB : w.heap.size ≤ B) : OwnO B (fun r => r = w.heap.size + 1) (InvC w) := by
  rintro s W W' row ⟨⟨v, hv, hr⟩, hb, hsz⟩ hg hrow
  refine ⟨⟨v, hv.kept hg (fun e => ?_), hr.kept hg ?_⟩, ⟨hg.os.trans hb.os, hg.tape.trans hb.tape, hg.output.trans hb.output, Nat.le_trans hb.size hg.size, fun k hk => (hg.block k (Nat.lt_of_lt_of_le hk hb.size) (fun e => ?_)).trans (hb.block k hk)⟩, Nat.le_trans hsz hg.size⟩
  · rcases hrow _ e.symm with h | ⟨_, o, ho, hc⟩
    · omega
    · rw [show W.heap[w.heap.size]? = _ from hv] at ho
      cases ho
      cases hc
  · cases hb : v.ownBlock with
    | none => exact .inl rfl
    | some g =>
      refine .inr (fun e => ?_)
      obtain ⟨h1, o, ho, hc⟩ := owns_blk hr g hb
      rcases hrow _ e.symm with h | ⟨_, o', ho', hc'⟩
      · omega
      · rw [ho] at ho'
        cases ho'
        rw [hc] at hc'
        cases hc'
  · rcases hrow _ e.symm with h | ⟨h, _⟩ <;> omega
theorem cut_ok (s : List UInt8) (k n : Nat) (hk0 : 1 ≤ k) (hk : k ≤ 32) (hs0 : 0 < s.length) (hs : s.length ≤ k * 1024) (hn : sizeC (s.length : Nat) (k : Nat) = (n : Int)) (hn1 : n ≤ 100000) (w : World) :
    Calls Tryz.prog 62 #[Str s, .int .i64 (k : Nat)] w fun e w' => ∃ v, e = .returned (.tuple #[v, .int .i64 0]) ∧ SlAt 0 w' 9 v ((partsC s n k).map Str) ∧ Below w.heap.size w w' := by
  obtain ⟨i0, hi, hz0, hz1, hz2⟩ := info_parts infoStr
  have hsz := size1_c (s.length : Nat) (k : Nat) (by omega) (by omega) (w.alloc (.cells #[.slice none 0 0] 60))
  rw [hn] at hsz
  have HSZ := Lib.hid hsz
  have HSH := Lib.hid (shards_c s k n (w.alloc (.cells #[.slice none 0 0] 60)))
  have h1 : ¬ (k : Int) < 1 := by omega
  have h2 : ¬ (32 : Int) < (k : Int) := by omega
  have h3 : s.isEmpty = false := by cases s with | nil => simp at hs0 | cons a s => rfl
  have h4 : ¬ (k : Int) * 1024 < (s.length : Int) := by omega
  have h5 : wrap64 ((k : Int) * 1024) = (k : Int) * 1024 := IntWalk.wrap64_in _ (by omega)
  have hs9 : s.length ≤ 1000000000 := by omega
  clear hsz hs0 hs hk0
  refine (callsIn_wide (n := 3)).1 ?_
  refine callsIn_of_wp_marks Tryz.func62 rfl trivial ?_ rfl
  simp only [Tryz.ntmps62, List.size_toArray, List.length_cons, List.length_nil, Nat.reduceAdd, Nat.reduceSub, Array.replicate_succ, Array.replicate_zero, List.push_toArray, List.append_toArray, List.nil_append, List.cons_append]
  gi_wp2_with fail
  refine ⟨trivial, (callsIn_wide.2 HSZ.out).mono ?_⟩
  rintro e w1 ⟨rfl, rfl⟩
  gi_wp2_with fail
  refine ⟨trivial, (callsIn_wide.2 HSH.out).mono ?_⟩
  rintro e w1 ⟨rfl, hbS, hbK, hbN, hb1, hsz1⟩
  gi_wp2_with fail
  have eS : (w.alloc (.cells #[.slice none 0 0] 60)).heap.size = w.heap.size + 1 := by simp
  rw [eS] at hbS hbK hbN hb1 hsz1
  have bO := Boxed.new w 60 (.slice none 0 0)
  have bO1 : Boxed w1 w.heap.size 60 (.slice none 0 0) := (hb1.block _ (by omega)).trans bO
  have hB1 : Below w.heap.size w w1 := ((Below.refl _ w).alloc (Nat.le_refl _) _).trans (hb1.mono (by omega))
  clear HSZ HSH hb1 bO
  refine wpIn_rangeFunc_O rfl (by decide) (gf := 86) (lb := #[.pointer (some ⟨w.heap.size + 1 + 1, 0, none⟩), .pointer (some ⟨w.heap.size + 1 + 2, 0, none⟩), .pointer (some ⟨w.heap.size + 1, 0, none⟩)]) rfl trivial (enters_of Tryz.func86 (by kernel_rfl) rfl)
    (O := fun r => r = w.heap.size + 1) (fun r e => by omega) (it_c (w.heap.size + 1) s k n (by omega) hn1 hs9 w1 hbK hbN hbS) (fun h h' => h.trans h')
    (fun W l o' hl => ⟨by simp, fun r h1 h2 => World.putObj_heap_other (by omega)⟩) (Below.refl _ _) (fun _ => rfl)
    (InvC w) (fun _ _ _ => False) (inv_own w _ (by omega)) (fun _ _ _ _ _ hs _ _ => hs) ⟨⟨_, bO1, World.ownsRow_nil _ _ _ _⟩, hB1, by omega⟩
    (fun x => { tmps := #[Str s, .int .i64 (k : Nat), undef, undef, .slice none 0 0, .int .i64 0, .pointer (some ⟨w.heap.size, 0, none⟩), Str x, .bool false, .int .i64 (k : Nat), .bool false, .bool false, .int .i64 (k : Nat), .bool false, .bool false, .bool false, Str s, .bool false, .bool false, Str s, .int .i64 (s.length : Nat), .int .i64 (k : Nat), .int .i64 ((k : Int) * 1024), .bool false, .bool false, Str s, .int .i64 (k : Nat), Str s, .int .i64 (s.length : Nat), .int .i64 (k : Nat), .int .i64 (n : Nat), .func (.func 86) #[] #[.pointer (some ⟨w.heap.size + 1 + 1, 0, none⟩), .pointer (some ⟨w.heap.size + 1 + 2, 0, none⟩), .pointer (some ⟨w.heap.size + 1, 0, none⟩)], Str x, undef, undef, undef, undef, undef], defers := [] }) ?assign ?body ?done ?stop
  case assign =>
    intro l x W K hK
    gi_wp2
    exact hK
  case body =>
    rintro l pre x W ⟨⟨v, hv, hrow⟩, hB, hsz⟩ hlt
    have hc := hv.cell
    have hlen : pre.length + 1 ≤ 100 := by omega
    gi_wp2_with (gi_at_builtin; refine wpListIn_append_own _ rfl _ _ 60 rfl (w.heap.size + 4) 9 i0 (Str []) 1 16 Tryz.underlying60 hi hz0 hz1 hz2 rfl (by decide) _ _ _ rfl (hrow.alloc _) ⟨W.heap.size, 0, none⟩ 1 1 [Str x] rfl rfl (cell_one_new _ _ _) (by simp [Value.oneCell']) (by simp only [maxLen]; omega) (by omega) (by simp; omega) ?_; intro v' w2 hown' hgrow _; obtain ⟨g', cap', rfl⟩ := ownsRow_succ hown'; obtain ⟨hv1, hv2, hr2, hk2, hb2⟩ := hv.appended (by decide) (owns_low hrow (Nat.le_add_right _ 4)) hB.size (Nat.le_refl _) (owns_low hown' (Nat.le_add_right _ 4)) hgrow; have hc1 := hv1.cell; have hf1 := hv1.frozen)
    have hr3 := hown'.kept (grownBy_setCell' w2 w.heap.size (.slice (some ⟨g', 0, none⟩) (pre.length + 1) cap')) (.inr (hv1.not_row (by decide) hown').symm)
    refine ⟨hk2.from _, ⟨hb2.size, fun r h1 h2 => ?_⟩, ⟨⟨_, hv2, by simpa using hr3⟩, hB.trans hb2, Nat.le_trans hsz hb2.size⟩⟩
    rw [Below.heap_setCell _ _ _ _ (by simp; omega), hgrow.block r (by simp; omega) (fun e => by have := (owns_blk hrow r e.symm).1; omega)]
    exact Below.heap_alloc _ _ _ (by omega)
  case done =>
    rintro D ys W hD rfl ⟨⟨v, hv, hrow⟩, hB, hsz⟩ hK
    have hc := hv.cell
    gi_wp2
    refine ⟨by simp, .inl ⟨_, _, rfl, run_takeDeferred hK, ?_⟩⟩
    exact ⟨_, results_tmp2 rfl _ _ _, v, rfl, owns_slAt (ownsRow_putObj hrow _ hK rfl), hB.trans (belowK_b (w := w) (Nat.le_refl _) W D _ _ (by omega) hK rfl rfl)⟩
  case stop =>
    rintro D c pre W _ _ h _
    exact h.elim
end Go.Proofs.YtnmlmpffmjhihaaGreat
