/-
  Frag: parts that come back: the law's walk (chapter 49).
-/
import Derived.Test.YtgfbhclkpephnaaFrB0
import Derived.Test.YtgfbhclkpephnaaLift2
namespace Go.Proofs.Ytgfbhclkpephnaa
open Go Go.RowKit
set_option linter.unusedVariables false
set_option linter.unusedSimpArgs false
set_option maxRecDepth 100000
set_option maxHeartbeats 2000000
def nextK (ks : List Nat) (k : Nat) : List Nat := if k ∈ ks then ks else ks ++ [k]
def stB (id : Int) (s : List UInt8) (N : Nat) (ks : List Nat) : List AE := if ks.length = N then [] else stK id s N ks
theorem put_back2 (id : Int) (i0 : 0 ≤ id) (i1 : id < 4294967296) (s : List UInt8) (N k : Nat) {H : List Bool} {ks : List Nat} (hc : Came N H ks) (hN : N ≤ 255) (hk : k < N) (hs : (N - 1) * 7 < s.length) (hs2 : s.length ≤ N * 7) (hlt : ks.length < N) :
    putA 1 (stB id s N ks) (partF id s 7 N k) = ⟨stB id s N (nextK ks k), if (nextK ks k).length = N then s else [], decide ((nextK ks k).length = N), 0⟩ := by
  have h := put_back id i0 i1 s N k ks hN hk hs hlt
  unfold stB
  rw [if_neg (by omega), h]
  unfold nextK
  by_cases hm : k ∈ ks
  · simp only [if_pos hm]
    have : ¬ ks.length = N := by omega
    rw [if_neg this, if_neg this, decide_eq_false this]
  · simp only [if_neg hm]
    have hl : (ks ++ [k]).length = ks.length + 1 := by simp
    by_cases h1 : ks.length + 1 < N
    · have : ¬ (ks ++ [k]).length = N := by omega
      rw [if_pos h1, if_neg this, if_neg this, decide_eq_false this]
    · have : (ks ++ [k]).length = N := by omega
      rw [if_neg h1, if_pos this, if_pos this, decide_eq_true this]
      congr 1
      rw [textF_all s _ N (fun j hj => ?_)]
      · rw [List.take_of_length_le hs2]
      · rw [getP_psK, if_pos]
        exact (hc.add hk hm).whole this j hj
theorem Came.next {N : Nat} {H : List Bool} {ks : List Nat} {k : Nat} (h : Came N H ks) (hk : k < N) : ∃ H', Came N H' (nextK ks k) ∧ (k ∈ ks → H' = H) ∧ (k ∉ ks → H' = H.set k true) := by
  unfold nextK
  by_cases hm : k ∈ ks
  · rw [if_pos hm]
    exact ⟨H, h, fun _ => rfl, fun hn => absurd hm hn⟩
  · rw [if_neg hm]
    exact ⟨H.set k true, h.add hk hm, fun hn => absurd hn hm, fun _ => rfl⟩
def haveB (H : List Bool) (N : Nat) : Array Value := ((H ++ List.replicate (64 - N) false).map Value.bool).toArray
theorem haveB_at {H : List Bool} {N k : Nat} (hl : H.length = N) (hk : k < N) : (haveB H N)[k]? = some (.bool (H[k]'(by omega))) := by
  unfold haveB
  simp only [List.getElem?_toArray, List.getElem?_map]
  rw [List.getElem?_append_left (by omega), List.getElem?_eq_getElem (by omega)]
  rfl
theorem haveB_set {H : List Bool} {N k : Nat} (hl : H.length = N) (hk : k < N) : haveB (H.set k true) N = (haveB H N).setIfInBounds k (.bool true) := by
  unfold haveB
  rw [List.setIfInBounds_toArray]
  congr 1
  rw [← List.map_set, List.set_append_left _ _ (by omega)]
theorem haveB_new {N : Nat} (hN : N ≤ 64) : haveB (List.replicate N false) N = #[.bool false, .bool false, .bool false, .bool false, .bool false, .bool false, .bool false, .bool false, .bool false, .bool false, .bool false, .bool false, .bool false, .bool false, .bool false, .bool false, .bool false, .bool false, .bool false, .bool false, .bool false, .bool false, .bool false, .bool false, .bool false, .bool false, .bool false, .bool false, .bool false, .bool false, .bool false, .bool false, .bool false, .bool false, .bool false, .bool false, .bool false, .bool false, .bool false, .bool false, .bool false, .bool false, .bool false, .bool false, .bool false, .bool false, .bool false, .bool false, .bool false, .bool false, .bool false, .bool false, .bool false, .bool false, .bool false, .bool false, .bool false, .bool false, .bool false, .bool false, .bool false, .bool false, .bool false, .bool false] := by
  unfold haveB
  rw [List.replicate_append_replicate, show N + (64 - N) = 64 by omega]
  rfl
/-- How all lies while the parts come. -/
structure BkS (W : World) (bj bm bh : Nat) (id : Int) (s : List UInt8) (N : Nat) (v : Value) (L k : Nat) (H : List Bool) (ks : List Nat) (w : World) : Prop where
  b : Below W.heap.size W w
  j : JnA W.heap.size w bj bm 1 (stB id s N ks)
  l : SlAt 0 w 9 v ((partsF id s 7 N N).map Str)
  h : Blk w bh (haveB H N) 86
  c : Came N H ks
  a : ∀ j, j < N → L + j < k → j ∈ ks
  o : W.heap.size ≤ bh
theorem nextK_mem {ks : List Nat} {k j : Nat} : j ∈ nextK ks k ↔ j ∈ ks ∨ j = k := by
  unfold nextK
  by_cases h : k ∈ ks
  · rw [if_pos h]
    exact ⟨.inl, fun x => x.elim (fun x => x) (fun e => e ▸ h)⟩
  · rw [if_neg h]
    simp
/-- The put of part kk, with everything else. -/
theorem back_put {W w w1 : World} {bj bm bh : Nat} {id : Int} {s : List UInt8} {N : Nat} {v : Value} {L k kk : Nat} {H H' : List Bool} {ks : List Nat} (h : BkS W bj bm bh id s N v L k H ks w) (i0 : 0 ≤ id) (i1 : id < 4294967296) (hN : N ≤ 64) (hkk : kk < N) (hs : (N - 1) * 7 < s.length) (hs2 : s.length ≤ N * 7) (hlt : ks.length < N)
    (hj : JnA W.heap.size w1 bj bm 1 (stB id s N ks)) (hb : Below W.heap.size W w1) (hl : SlAt 0 w1 9 v ((partsF id s 7 N N).map Str)) (hh : Blk w1 bh (haveB H' N) 86) (hc : Came N H' (nextK ks kk)) (hk : L ≤ k → kk = k - L) :
    Calls Try.prog 38 #[.pointer (some ⟨bj, 0, none⟩), Str (partF id s 7 N kk)] w1 fun x w' => x = .returned (.tuple #[Str (if (nextK ks kk).length = N then s else []), .bool (decide ((nextK ks kk).length = N)), .int .i64 0]) ∧ BkS W bj bm bh id s N v L (k + 1) H' (nextK ks kk) w' := by
  have hp := put_back2 id i0 i1 s N kk h.c (by omega) hkk hs hs2 hlt
  have := fput_any (partF id s 7 N kk) W.heap.size bj bm 1 (stB id s N ks) w1 hj hb.size (by have := (partF_len id s N kk (by omega)).2; omega)
  rw [hp] at this
  refine this.mono ?_
  rintro x w' ⟨rfl, hj', hm⟩
  refine ⟨rfl, Below.trans hb (hm.below hb.size), hj', hm.sl (Nat.zero_le _) hl, hm.blk hh, hc, fun j hj2 hlt2 => ?_, h.o⟩
  rw [nextK_mem]
  by_cases e : L + j < k
  · exact .inl (h.a j hj2 e)
  · have := hk (by omega)
    right
    omega
theorem Blk.ne_ty {w : World} {b c : Nat} {cs cs' : Array Value} {t t' : TypeId} (h : Blk w b cs t) (h' : Blk w c cs' t') (hn : t ≠ t') : b ≠ c := by
  rintro rfl
  unfold Blk at h h'
  rw [h] at h'
  cases h'
  exact hn rfl
theorem JnA.store {base : Nat} {w : World} {bj bm bh : Nat} {room : Int} {A : List AE} {cs : Array Value} (h : JnA base w bj bm room A) (hh : Blk w bh cs 86) (o : Nat) (v : Value) : JnA base (w.setCell ⟨bh, o, none⟩ v) bj bm room A := by
  obtain ⟨es, hj, hr⟩ := h
  refine ⟨es, hj.kept (S := [bh]) ((Only.refl _ _).setCell _ _ (.inl (by simp))) ?_ ?_ (fun e he => ⟨?_, ?_⟩), hr⟩
  · simpa using hj.b.ne_ty hh (by decide)
  · simpa using (hh.ne_map hj.m).symm
  · simpa using (hj.e e he).b.ne_ty hh (by decide)
  · simpa using (hh.ne_map (hj.e e he).m).symm
/-- A part that was not there: its mark is set. -/
theorem BkS.mark {W w : World} {bj bm bh : Nat} {id : Int} {s : List UInt8} {N : Nat} {v : Value} {L k kk : Nat} {H : List Bool} {ks : List Nat} (h : BkS W bj bm bh id s N v L k H ks w) (hk : kk < N) :
    JnA W.heap.size (w.setCell ⟨bh, kk, none⟩ (.bool true)) bj bm 1 (stB id s N ks) ∧ Below W.heap.size W (w.setCell ⟨bh, kk, none⟩ (.bool true)) ∧ SlAt 0 (w.setCell ⟨bh, kk, none⟩ (.bool true)) 9 v ((partsF id s 7 N N).map Str) ∧ Blk (w.setCell ⟨bh, kk, none⟩ (.bool true)) bh (haveB (H.set kk true) N) 86 :=
  ⟨h.j.store h.h kk _, h.b.setCell h.o _, h.l.store _ _ (h.h.apart (Nat.zero_le _) (by decide)), h.h.setAt kk _ (haveB_set h.c.l hk)⟩
end Go.Proofs.Ytgfbhclkpephnaa
