/-
  Bits: which are missing; two lists held against each other: contracts (chapter 11).
-/
import Derived.Test.YtgfbhclkpephnaaBits3
namespace Go.Proofs.Ytgfbhclkpephnaa
open Go.RowKit
set_option linter.unusedVariables false
set_option maxRecDepth 100000
set_option maxHeartbeats 1000000
theorem infoInt : (Try.prog.info? 3).map (fun i => (i.zero, i.size, i.bytes)) = some (some (.int .i64 0), 1, 8) := by kernel_rfl
theorem ownsRow_slice {w : World} {base size n : Nat} {e : TypeId} {v : Value} {xs : List Value} (h : w.ownsRow base e size v n xs) : ∃ a cap, v = .slice a n cap := by
  rcases h.2 with ⟨h0, h1⟩ | ⟨g, cap, _, hv, _⟩
  · exact ⟨none, 0, by rw [h0, h1]⟩
  · exact ⟨_, cap, hv⟩
theorem IsInts.of_own {w : World} {B : Nat} {e : TypeId} {a : Option Addr} {n cap : Nat} {zs : List Int} {k : IntKind} (h : w.ownsRow B e 1 (.slice a n cap) n (zs.map (Value.int k))) (hwf : ∀ z ∈ zs, (Lit.int k z).wf = true) : IsInts k w a n cap zs := by
  obtain ⟨hl, h⟩ := h
  have hl' : zs.length = n := by simpa using hl
  rcases h with ⟨h0, h1⟩ | ⟨g, cap', cur, hv, hg, hh, hn, hc, hs, ht⟩
  · cases h0
    exact ⟨hl', by omega, by omega, hwf, .inl h1⟩
  · cases hv
    refine ⟨hl', hn, hc, hwf, .inr ⟨g, 0, rfl, (Array.getElem?_eq_some_iff.1 hh).1, fun i hi => ?_⟩⟩
    have e1 : (cur.toList.take (n * 1))[i]? = some (.int k zs[i]) := by
      rw [ht]
      simp [hi]
    unfold World.cell?
    rw [hh]
    simp only [Nat.mul_one, Nat.zero_add] at e1 ⊢
    rw [List.getElem?_take] at e1
    split at e1
    · simpa using e1
    · cases e1
theorem own_chain {w w' : World} {B size n : Nat} {e : TypeId} {v : Value} {xs : List Value} (h : w.ownsRow B e size v n xs) (hb : Below w.heap.size w w') : w'.ownsRow B e size v n xs := by
  obtain ⟨h1, h2⟩ := h
  refine ⟨h1, h2.imp id ?_⟩
  rintro ⟨g, cap, cur, hv, hg, hh, r⟩
  exact ⟨g, cap, cur, hv, hg, by rw [hb.block g (Array.getElem?_eq_some_iff.1 hh).1]; exact hh, r⟩
def misF (l : List UInt8) (n most : Int) : Nat → Nat → List Int → List Int
  | 0, _, out => out
  | f + 1, i, out => if (i : Int) < n ∧ (out.length : Int) < most then misF l n most f (i + 1) (if hasB l i then out else out ++ [(i : Int)]) else out
def mis (l : List UInt8) (n most : Int) : List Int := if l.length = 32 then misF l n most 255 0 [] else []
theorem misF_stop (l : List UInt8) (n most : Int) (f i : Nat) (out : List Int) (h : ¬ ((i : Int) < n ∧ (out.length : Int) < most)) : misF l n most f i out = out := by
  cases f with
  | zero => rfl
  | succ f => unfold misF; rw [if_neg h]
theorem misF_go (l : List UInt8) (n most : Int) (f i : Nat) (out : List Int) (h1 : (i : Int) < n) (h2 : (out.length : Int) < most) : misF l n most (f + 1) i out = misF l n most f (i + 1) (if hasB l i then out else out ++ [(i : Int)]) := by
  conv => lhs; unfold misF
  rw [if_pos ⟨h1, h2⟩]
theorem misF_mem (l : List UInt8) (n most : Int) (f i : Nat) (out : List Int) (hfi : f + i ≤ 255) (h : ∀ z ∈ out, 0 ≤ z ∧ z ≤ 255) : ∀ z ∈ misF l n most f i out, 0 ≤ z ∧ z ≤ 255 := by
  induction f generalizing i out with
  | zero => exact h
  | succ f ih =>
    unfold misF
    split
    · refine ih (i + 1) _ (by omega) ?_
      split
      · exact h
      · intro z hz
        rcases List.mem_append.1 hz with hz | hz
        · exact h z hz
        · simp at hz; omega
    · exact h
theorem mis_mem (l : List UInt8) (n most : Int) : ∀ z ∈ mis l n most, 0 ≤ z ∧ z ≤ 255 := by
  unfold mis
  split
  · exact misF_mem l n most 255 0 [] (by omega) (by simp)
  · simp
def MisPost (l : List UInt8) (n most : Int) (w : World) (x : Ending) (w' : World) : Prop :=
  ∃ a cap, x = .returned (.slice a (mis l n most).length cap) ∧ IsInts .i64 w' a (mis l n most).length cap (mis l n most) ∧ Below w.heap.size w w'
theorem missing_any (l : List UInt8) (hl : l.length ≤ 9223372036854775807) (n most : Int) (hn0 : -9223372036854775808 ≤ n) (hn1 : n ≤ 9223372036854775807) (hm0 : -9223372036854775808 ≤ most) (hm1 : most ≤ 9223372036854775807) (w : World) :
    Calls Try.prog 58 #[Str l, .int .i64 n, .int .i64 most] w (MisPost l n most w) := by
  have hmem := mis_mem l n most
  by_cases h32 : l.length = 32
  · have hR : misF l n most 255 0 [] = mis l n most := by unfold mis; rw [if_pos h32]
    have hl' : ((l.length : Int) != 32) = false := by simp; omega
    have HL := Lib.hid h32
    have HR := Lib.hid hR
    have HM := Lib.hid hmem
    clear h32 hR hmem
    obtain ⟨i0, hi, hz0, hz1, hz2⟩ := info_parts infoInt
    go_enter Try.func58, Try.ntmps58
    go_wp2_with fail
    go_loopw [7, 8] (fun v i wr => ∃ (k : Nat) (out : List Int), k ≤ 255 ∧ i = .int .i64 k ∧ out.length ≤ k ∧ misF l n most (255 - k) k out = mis l n most ∧ wr.ownsRow w.heap.size 3 1 v out.length (out.map (Value.int .i64)) ∧ Below w.heap.size w wr) (fun _ i _ => 255 - (intOf i).toNat)
    case atStart => exact ⟨0, [], by omega, rfl, by simp, HR.out, ⟨by simp, .inl ⟨rfl, rfl⟩⟩, Below.refl _ _⟩
    case round =>
      obtain ⟨k, out, hk, rfl, hol, hrem, hown, hB⟩ := hrel
      obtain ⟨a, cap, rfl⟩ := ownsRow_slice hown
      by_cases hgo : k < 255 ∧ (k : Int) < n ∧ (out.length : Int) < most
      · obtain ⟨hg1, hg2, hg3⟩ := hgo
        rw [show 255 - k = (255 - (k + 1)) + 1 by omega, misF_go l n most _ k out hg2 hg3] at hrem
        have HREM := Lib.hid hrem
        clear hrem
        have hmin : (k : Int) < min n 255 := by omega
        go_wp2_with fail
        refine (has_any l hl k _).mono ?_
        rintro x w1 ⟨rfl, hb⟩
        have hown1 := own_chain hown hb
        have hB1 := Below.chain hb hB
        have hsz : w.heap.size ≤ w1.heap.size := hB1.size
        clear hown
        cases hh : hasB l k
        · have HH := Lib.hid hh
          clear hh
          go_wp2_with (at_builtin; refine wpList_append_own _ rfl _ _ 29 rfl w.heap.size 3 i0 (.int .i64 0) 1 8 Try.underlying29 hi hz0 hz1 hz2 rfl (by decide) _ _ _ rfl (hown1.alloc _) ⟨w1.heap.size, 0, none⟩ 1 1 [.int .i64 k] rfl rfl ?c1 ?c2 ?c3 ?c4 ?c5 ?_)
          case c1 => exact (cell_one_new _ _ _)
          case c2 => simp [Value.oneCell']
          case c3 => unfold maxLen; omega
          case c4 => omega
          case c5 => simp; omega
          intro v' w2 hown2 hgrow _
          have hB2 := Below.grow (Below.chainAlloc hB1 _) (hown1.alloc _) hgrow (by simp; omega)
          clear hgrow hown1 hB1 hb
          go_wp2_with fail
          go_roundw
          case rel => exact ⟨k + 1, out ++ [(k : Int)], by omega, by go_num, by simp; omega, by have := HREM.out; rw [HH.out] at this; exact this, by simpa using hown2, hB2⟩
          case measure => simp [intOf]; omega
        · have HH := Lib.hid hh
          clear hh
          go_wp2_with fail
          go_roundw
          case rel => exact ⟨k + 1, out, by omega, by go_num, by omega, by have := HREM.out; rw [HH.out] at this; exact this, hown1, hB1⟩
          case measure => simp [intOf]; omega
      · have hst : misF l n most (255 - k) k out = out := by
          by_cases hk2 : k < 255
          · exact misF_stop l n most _ k out (fun h => hgo ⟨hk2, h⟩)
          · rw [show 255 - k = 0 by omega]; rfl
        rw [hst] at hrem
        have HF : Hid (MisPost l n most w (.returned (.slice a out.length cap)) wr) := by
          refine ⟨a, cap, by rw [hrem], ?_, hB⟩
          rw [← hrem]
          exact IsInts.of_own hown (fun z hz => by
            have := HM.out z (by rw [← hrem]; exact hz)
            simp [Lit.wf, IntKind.min, IntKind.max, IntKind.signed, IntKind.bits]
            omega)
        clear hrem hst
        by_cases hg1 : (k : Int) < min n 255
        · have hg2 : ¬ (out.length : Int) < most := by omega
          go_wp2_with fail
          go_ret
          exact HF.out
        · go_wp2_with fail
          go_ret
          exact HF.out
  · have hR : mis l n most = [] := by unfold mis; rw [if_neg h32]
    have hl' : ((l.length : Int) != 32) = true := by simp; omega
    have HR := Lib.hid hR
    clear h32 hR hmem
    go_enter Try.func58, Try.ntmps58
    go_wp2_with fail
    go_ret
    refine ⟨none, 0, ?_, ?_, Below.refl _ _⟩
    · rw [HR.out]; rfl
    · rw [HR.out]
      exact ⟨rfl, by simp, by simp, by simp, .inl rfl⟩
end Go.Proofs.Ytgfbhclkpephnaa
