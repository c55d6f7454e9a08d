/-
  Whose turn it is: serve; Push that is refused (chapter 17).
-/
import Derived.Test.YtgfbhclkpephnaaDr2
import Derived.StillTailTactics
namespace Go.Proofs.Ytgfbhclkpephnaa
open Go Go.RowKit
set_option linter.unusedVariables false
set_option linter.unusedSimpArgs false
set_option maxRecDepth 100000
set_option maxHeartbeats 1000000
theorem putQ_self {q : PQ} {l : List PQ} (hn : (l.map PQ.id).Nodup) (hg : getQ q.id l = some q) : putQ q l = l := by
  unfold putQ
  refine (List.map_congr_left fun f hf => ?_).trans (List.map_id _)
  by_cases h : f.id = q.id
  · rw [if_pos h]
    have := getQ_of hn hf
    rw [h, hg] at this
    cases this
    rfl
  · rw [if_neg h]
    rfl
theorem len_le_nd : ∀ (N : Nat) (l : List Int), l.Nodup → (∀ x ∈ l, 0 ≤ x ∧ x < (N : Int)) → l.length ≤ N
  | 0, l, _, h => by
    cases l with
    | nil => exact Nat.le_refl _
    | cons x l => have := h x List.mem_cons_self; omega
  | N + 1, l, hn, h => by
    have ih := len_le_nd N (l.erase (N : Int)) (hn.erase _) (fun x hx => by
      rw [hn.mem_erase_iff] at hx
      have := h x hx.2
      have := hx.1
      omega)
    by_cases hm : (N : Int) ∈ l
    · rw [List.length_erase_of_mem hm] at ih
      omega
    · rw [List.erase_of_not_mem hm] at ih
      omega
theorem PS.Ok.rlen {S : PS} (h : S.Ok) : S.round.length ≤ 256 :=
  len_le_nd 256 _ h.rn fun x hx => by
    obtain ⟨q, hq, _⟩ := (h.rm x).1 hx
    obtain ⟨h1, rfl⟩ := getQ_mem hq
    have := (h.q q h1).id
    omega
theorem dserve_any (bs base : Nat) (S : PS) (m : DM) (n : Int) (q : PQ) (w : World) (h : SchM w base bs S m n) (ho : S.Ok) (hg : getQ q.id S.qs = some q) :
    Calls Try.prog 51 #[.pointer (some ⟨bs, 0, none⟩), .pointer (some ⟨m.B q.id, 0, none⟩)] w fun e w' => e = .returned (.tuple #[]) ∧ SchM w' base bs { S with qs := putQ (servP S.quantum q) S.qs } m n ∧ Only [m.B q.id] w w' := by
  obtain ⟨hq, _⟩ := getQ_mem hg
  have hb := h.q q hq
  have hok := ho.q q hq
  obtain ⟨c1, f1, l1⟩ := hb.facts
  have k1 : w.cell? ⟨m.B q.id, 1, none⟩ = some (.int .i64 q.weight) := c1 1
  have k2 : w.cell? ⟨m.B q.id, 2, none⟩ = some (.int .i64 q.deficit) := c1 2
  have k3 : w.cell? ⟨m.B q.id, 3, none⟩ = some (.bool q.served) := c1 3
  cases hs : q.served with
  | true =>
    have he : servP S.quantum q = q := if_pos hs
    rw [he, putQ_self ho.nd hg]
    rw [hs] at k3
    have HH := Lib.hid h
    clear h ho hg hb hok he hs c1 hq
    go_enter Try.func51, Try.ntmps51
    go_wp2_with fail
    go_end0
    exact ⟨rfl, HH.out, Only.refl _ _⟩
  | false =>
    have he : servP S.quantum q = { q with deficit := q.deficit + S.quantum * q.weight, served := true } := if_neg (by rw [hs]; simp)
    rw [he]
    rw [hs] at k3
    have k0 := h.cells.1
    have hmw := mul_wt ho.qm.1 ho.qm.2 hok.wt.1 hok.wt.2
    have hdf := hok.df
    have w1 : wrap64 (S.quantum * q.weight) = S.quantum * q.weight := IntWalk.wrap64_in _ (by omega)
    have w2 : wrap64 (q.deficit + S.quantum * q.weight) = q.deficit + S.quantum * q.weight := by
      clear w1
      generalize S.quantum * q.weight = y at hmw ⊢
      exact IntWalk.wrap64_in _ (by omega)
    have hfin : SchM ((w.drew.setCell ⟨m.B q.id, 2, none⟩ (.int .i64 (q.deficit + S.quantum * q.weight))).setCell ⟨m.B q.id, 3, none⟩ (.bool true)) base bs { S with qs := putQ { q with deficit := q.deficit + S.quantum * q.weight, served := true } S.qs } m n :=
      h.setQ hg rfl rfl ((hb.drew.setAt 2 _ rfl).setAt 3 _ rfl) (((Only.refl _ _).drew.setCell _ _ (.inl (by simp))).setCell _ _ (.inl (by simp)))
    have HF := Lib.hid hfin
    clear h ho hg hb hok he hs c1 hq hfin hmw hdf
    go_enter Try.func51, Try.ntmps51
    go_upto_region 1 with fail
    go_still_tail 16, (by kernel_rfl)
    change wpList _ _ _ _ _ w.drew
    go_wp2_with fail
    go_end0
    exact ⟨rfl, HF.out, ((Only.refl _ _).drew.setCell _ _ (.inl (by simp))).setCell _ _ (.inl (by simp))⟩
/-! Push. -/
def itV (x : Int × Int) : Value := .agg #[.int .i64 x.1, .int .i64 x.2]
theorem dpush_nil (x : Int × Int) (w : World) : Calls Try.prog 19 #[.pointer none, itV x] w fun e w' => e = .returned (.int .i64 17) ∧ Below w.heap.size w w' := by
  have HN := Lib.hid fun w' => dat_nil x.1 w'
  have hB := Lib.hid (Below.chainAlloc (Below.refl _ w) (.cells #[.int .i64 x.1, .int .i64 x.2] 35))
  unfold itV
  go_enter Try.func19, Try.ntmps19
  go_wp2_with fail
  refine (HN.out _).mono ?_
  rintro e w1 ⟨rfl, rfl⟩
  go_wp2_with fail
  go_ret
  exact ⟨rfl, hB.out⟩
theorem dpush_none (bs base : Nat) (S : PS) (m : DM) (n : Int) (x : Int × Int) (w : World) (h : SchM w base bs S m n) (ho : S.Ok) (hg : getQ x.1 S.qs = none) : Calls Try.prog 19 #[.pointer (some ⟨bs, 0, none⟩), itV x] w fun e w' => e = .returned (.int .i64 7) ∧ Below w.heap.size w w' := by
  have hB := Below.chainAlloc (Below.refl _ w) (.cells #[.int .i64 x.1, .int .i64 x.2] 35)
  have HN := dat_any bs base S m n x.1 _ (h.chain hB) ho
  rw [hg] at HN
  unfold ptrQ at HN
  unfold itV
  have HB := Lib.hid hB
  clear h ho hg hB
  go_enter Try.func19, Try.ntmps19
  go_wp2_with fail
  refine HN.mono ?_
  rintro e w1 ⟨rfl, rfl⟩
  go_wp2_with fail
  go_ret
  exact ⟨rfl, HB.out⟩
theorem dpush_bad (bs base : Nat) (S : PS) (m : DM) (n : Int) (x : Int × Int) (q : PQ) (w : World) (h : SchM w base bs S m n) (ho : S.Ok) (hg : getQ x.1 S.qs = some q) (hx : x.2 < 1 ∨ 65536 < x.2) : Calls Try.prog 19 #[.pointer (some ⟨bs, 0, none⟩), itV x] w fun e w' => e = .returned (.int .i64 2) ∧ Below w.heap.size w w' := by
  have hB := Below.chainAlloc (Below.refl _ w) (.cells #[.int .i64 x.1, .int .i64 x.2] 35)
  have HN := dat_any bs base S m n x.1 _ (h.chain hB) ho
  rw [hg] at HN
  unfold ptrQ at HN
  unfold itV
  have HB := Lib.hid hB
  have HXX := Lib.hid hx
  clear h ho hg hB
  rcases hx with hx | hx
  · go_enter Try.func19, Try.ntmps19
    go_wp2_with fail
    refine HN.mono ?_
    rintro e w1 ⟨rfl, rfl⟩
    go_wp2_with fail
    go_ret
    exact ⟨rfl, HB.out⟩
  · have hx2 : ¬ x.2 < 1 := by omega
    go_enter Try.func19, Try.ntmps19
    go_wp2_with fail
    refine HN.mono ?_
    rintro e w1 ⟨rfl, rfl⟩
    go_wp2_with fail
    go_ret
    exact ⟨rfl, HB.out⟩
end Go.Proofs.Ytgfbhclkpephnaa
