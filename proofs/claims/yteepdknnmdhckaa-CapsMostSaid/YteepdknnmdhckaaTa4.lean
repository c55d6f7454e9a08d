/-
  The table: slices.Insert of a shard (chapter 18).
-/
import Derived.Test.YteepdknnmdhckaaTa3
namespace Go.Proofs.Yteepdknnmdhckaa
open Go Go.RowKit
set_option linter.unusedVariables false
set_option linter.unusedSimpArgs false
set_option maxRecDepth 100000
set_option maxHeartbeats 2000000
theorem rds_one {w : World} {vb : Nat} {x : Sh} (hv : Blk w vb #[.int .i64 x.1, Str x.2] 207) : RdS w 2 (.slice (some ⟨vb, 0, none⟩) 1 1) 1 [.int .i64 x.1, Str x.2] := by
  refine ⟨rfl, .inr ⟨_, _, rfl, fun j u hu => ?_⟩⟩
  have e : (⟨vb, 0, none⟩ : Addr).add j = ⟨vb, j, none⟩ := by unfold Addr.add; split <;> simp_all
  rw [e, hv.facts.1 j]
  simpa using hu
theorem Seg.capOf {w : World} {base g off cap n : Nat} {e : TypeId} {size : Nat} {xs : List Value} (h : Seg w base e size (.slice (some ⟨g, off, none⟩) n cap) n xs) : n ≤ cap ∧ cap ≤ maxLen ∧ base ≤ g ∧ g < w.heap.size := by
  rcases h.2 with ⟨h0, _⟩ | ⟨g', off', cap', cur, hv, hg, hh, hn, hc, _⟩
  · cases h0
  · cases hv
    exact ⟨hn, hc, hg, (Array.getElem?_eq_some_iff.1 hh).1⟩
theorem Only.put {S : List Nat} {a b : World} (h : Only S a b) (p : Addr) (u : Value) (hp : p.block ∈ S) : Only S a (b.setCell p u) :=
  ⟨h.os, h.tape, h.output, by simpa using h.size, fun k hk hn => by
    rw [Below.heap_setCell _ _ _ _ (fun e => hn (by rw [e]; exact hp))]
    exact h.block k hk hn⟩
theorem Only.puts {S : List Nat} {a : World} {g : Nat} (hp : g ∈ S) : ∀ (us : List Value) (o : Nat) {b : World}, Only S a b → Only S a (b.setCells g o us)
  | [], _, _, h => h
  | u :: us, o, b, h => Only.puts hp us (o + 1) (h.put ⟨g, o, none⟩ u hp)
theorem drew_setCells (b : Nat) : ∀ (vs : List Value) (o : Nat) (w : World), (w.setCells b o vs).drew = w.drew.setCells b o vs
  | [], _, _ => rfl
  | v :: r, o, w => by rw [World.setCells, World.setCells, drew_setCells b r]; rfl
def InsP (w : World) (base g : Nat) (l : List Sh) (i : Nat) (x : Sh) (e : Ending) (w' : World) : Prop := ∃ g' off' cap', e = .returned (.slice (some ⟨g', off', none⟩) (l.length + 1) cap') ∧ ShS w' base (.slice (some ⟨g', off', none⟩) (l.length + 1) cap') (insL l i x) ∧ Only [g] w w'
end Go.Proofs.Yteepdknnmdhckaa
