/-
  Whose turn it is: New, at, Len, Waiting, Add (chapter 17).
-/
import Derived.Test.YtgfbhclkpephnaaDr1
namespace Go.Proofs.Ytgfbhclkpephnaa
open Go Go.RowKit
set_option linter.unusedVariables false
set_option linter.unusedSimpArgs false
set_option maxRecDepth 100000
set_option maxHeartbeats 1000000
theorem dnew_bad (z : Int) (h : z < 1 ∨ 65536 < z) (w : World) : Calls Try.prog 12 #[.int .i64 z] w fun e w' => e = .returned (.tuple #[.pointer none, .int .i64 1]) ∧ w = w' := by
  rcases h with h | h
  · go_enter Try.func12, Try.ntmps12
    go_wp2_with fail
    go_ret2
    exact ⟨rfl, rfl⟩
  · have h3 : ¬ z < 1 := by omega
    go_enter Try.func12, Try.ntmps12
    go_wp2_with fail
    go_ret2
    exact ⟨rfl, rfl⟩
theorem zero_cells98 : Try.zeroCells98 = (([Value.int .i64 0] ++ List.replicate 256 (Value.pointer none)) ++ [Value.slice none 0 0, Value.int .i64 0]).toArray := by kernel_rfl
theorem new_cells (z : Int) : SchC (Try.zeroCells98.setIfInBounds 0 (.int .i64 z)) (newP z) ⟨fun _ => 0, fun _ => .slice none 0 0, .slice none 0 0⟩ 0 := by
  rw [zero_cells98]
  refine ⟨by simp, ?_, fun i hi => ?_, ?_, ?_⟩
  · rw [Array.getElem?_setIfInBounds, if_pos rfl, if_pos (by simp)]
    rfl
  · rw [Array.getElem?_setIfInBounds, if_neg (by omega), List.getElem?_toArray, List.getElem?_append_left (by simp; omega), List.getElem?_append_right (by simp)]
    simp only [List.length_cons, List.length_nil, Nat.zero_add, Nat.add_sub_cancel_left]
    rw [List.getElem?_replicate, if_pos hi]
    rfl
  · rw [Array.getElem?_setIfInBounds, if_neg (by decide), List.getElem?_toArray, List.getElem?_append_right (by simp)]
    simp
  · rw [Array.getElem?_setIfInBounds, if_neg (by decide), List.getElem?_toArray, List.getElem?_append_right (by simp)]
    simp
theorem dnew_ok (z : Int) (h1 : 1 ≤ z) (h2 : z ≤ 65536) (w : World) : Calls Try.prog 12 #[.int .i64 z] w fun e w' => e = .returned (.tuple #[.pointer (some ⟨w.heap.size, 0, none⟩), .int .i64 0]) ∧ SchM w' w.heap.size w.heap.size (newP z) ⟨fun _ => 0, fun _ => .slice none 0 0, .slice none 0 0⟩ 0 ∧ Below w.heap.size w w' := by
  have h3 : ¬ z < 1 := by omega
  have h4 : ¬ 65536 < z := by omega
  go_enter Try.func12, Try.ntmps12
  go_wp2_with fail
  refine bodyPost_ret (v := .tuple #[.pointer (some ⟨w.heap.size, 0, none⟩), .int .i64 0]) (by simp [results, Try.results12, go_sem]) rfl ⟨rfl, ⟨⟨_, Blk.new _ _ _, new_cells z⟩, Seg.nil _ _ _ _, by simp [newP], by simp [newP], Nat.le_refl _, by simp [newP], by simp [newP], by simp [newP]⟩, Below.chainAlloc (Below.refl _ _) _⟩
/-- The queue at an id. -/
theorem dat_any (bs base : Nat) (S : PS) (m : DM) (n id : Int) (w : World) (h : SchM w base bs S m n) (ho : S.Ok) : Calls Try.prog 49 #[.pointer (some ⟨bs, 0, none⟩), .int .i64 id] w fun e w' => e = .returned (ptrQ m (getQ id S.qs)) ∧ w = w' := by
  by_cases hid : 0 ≤ id ∧ id ≤ 255
  · obtain ⟨k, rfl⟩ : ∃ k : Nat, id = (k : Int) := ⟨id.toNat, by omega⟩
    have hc := h.cells.2.2.2.2 k (by omega)
    have h1 : ¬ (k : Int) < 0 := by omega
    have h2 : ¬ 255 < (k : Int) := by omega
    have h3 : (k : Int) < 256 := by omega
    have h4 : (0 : Int) ≤ (k : Int) := by omega
    generalize ptrQ m (getQ (k : Int) S.qs) = v at *
    clear hid h ho
    go_enter Try.func49, Try.ntmps49
    go_wp2_with fail
    go_ret
    exact ⟨rfl, rfl⟩
  · have hn : getQ id S.qs = none := getQ_none.2 fun q hq e => hid (e ▸ (ho.q q hq).id)
    rw [hn]
    by_cases h1 : id < 0
    · clear hid h ho hn
      go_enter Try.func49, Try.ntmps49
      go_wp2_with fail
      go_ret
      exact ⟨rfl, rfl⟩
    · have h2 : 255 < id := by omega
      clear hid h ho hn
      go_enter Try.func49, Try.ntmps49
      go_wp2_with fail
      go_ret
      exact ⟨rfl, rfl⟩
theorem dat_nil (id : Int) (w : World) : Calls Try.prog 49 #[.pointer none, .int .i64 id] w fun e w' => e = .returned (.pointer none) ∧ w = w' := by
  go_enter Try.func49, Try.ntmps49
  go_wp2_with fail
  go_ret
  exact ⟨rfl, rfl⟩
def lenP (id : Int) (S : PS) : Nat := match getQ id S.qs with | some q => q.items.length | none => 0
theorem dlen_any (bs base : Nat) (S : PS) (m : DM) (n id : Int) (w : World) (h : SchM w base bs S m n) (ho : S.Ok) : Calls Try.prog 16 #[.pointer (some ⟨bs, 0, none⟩), .int .i64 id] w fun e w' => e = .returned (.int .i64 (lenP id S : Nat)) ∧ w = w' := by
  have hat := dat_any bs base S m n id w h ho
  unfold lenP
  cases hg : getQ id S.qs with
  | none =>
    rw [hg] at hat
    unfold ptrQ at hat
    clear h ho hg
    go_enter Try.func16, Try.ntmps16
    go_wp2_with fail
    refine hat.mono ?_
    rintro x w1 ⟨rfl, rfl⟩
    go_wp2_with fail
    go_ret
    exact ⟨rfl, rfl⟩
  | some q =>
    rw [hg] at hat
    unfold ptrQ at hat
    have hq := (getQ_mem hg).1
    have c4 : w.cell? ⟨m.B q.id, 4, none⟩ = some (m.V q.id) := (h.q q hq).facts.1 4
    obtain ⟨a, cap, hv⟩ := (h.i q hq).form
    rw [hv] at c4
    clear h ho hg hq hv
    go_enter Try.func16, Try.ntmps16
    go_wp2_with fail
    refine hat.mono ?_
    rintro x w1 ⟨rfl, rfl⟩
    go_wp2_with fail
    go_ret
    exact ⟨rfl, rfl⟩
theorem dlen_nil (id : Int) (w : World) : Calls Try.prog 16 #[.pointer none, .int .i64 id] w fun e w' => e = .returned (.int .i64 0) ∧ w = w' := by
  have hat := dat_nil id w
  go_enter Try.func16, Try.ntmps16
  go_wp2_with fail
  refine hat.mono ?_
  rintro x w1 ⟨rfl, rfl⟩
  go_wp2_with fail
  go_ret
  exact ⟨rfl, rfl⟩
theorem dwait_any (bs base : Nat) (S : PS) (m : DM) (n : Int) (w : World) (h : SchM w base bs S m n) : Calls Try.prog 14 #[.pointer (some ⟨bs, 0, none⟩)] w fun e w' => e = .returned (.int .i64 n) ∧ w = w' := by
  have hc := h.cells.2.2.1
  clear h
  go_enter Try.func14, Try.ntmps14
  go_wp2_with fail
  go_ret
  exact ⟨rfl, rfl⟩
theorem dwait_nil (w : World) : Calls Try.prog 14 #[.pointer none] w fun e w' => e = .returned (.int .i64 0) ∧ w = w' := by
  go_enter Try.func14, Try.ntmps14
  go_wp2_with fail
  go_ret
  exact ⟨rfl, rfl⟩
/-! Add. -/
theorem setCell_alloc {w : World} {a : Addr} {v : Value} {o : Obj} (h : a.block < w.heap.size) : (w.setCell a v).alloc o = (w.alloc o).setCell a v := by
  unfold World.setCell World.alloc
  simp only
  congr 1
  apply Array.ext_getElem?
  intro i
  rw [Array.getElem?_push, Array.getElem?_modify, Array.getElem?_modify, Array.getElem?_push]
  simp only [Array.size_modify]
  by_cases e : i = w.heap.size
  · rw [if_pos e, if_neg (by omega), if_pos e]
  · rw [if_neg e, if_neg e]
def DM.add (m : DM) (id : Int) (b : Nat) : DM := ⟨fun i => if i = id then b else m.B i, fun i => if i = id then .slice none 0 0 else m.V i, m.rv⟩
theorem SchM.add {w : World} {base bs : Nat} {S : PS} {m : DM} {n : Int} (h : SchM w base bs S m n) (ho : S.Ok) (k : Nat) (hk : k < 256) (wt : Int) (hg : getQ (k : Int) S.qs = none) :
    SchM ((w.alloc (.cells #[.int .i64 (k : Int), .int .i64 wt, .int .i64 0, .bool false, .slice none 0 0] 110)).setCell ⟨bs, 1 + k, none⟩ (.pointer (some ⟨w.heap.size, 0, none⟩))) base bs (addP S k wt) (m.add k w.heap.size) n := by
  have hb := Below.chainAlloc (Below.refl _ w) (.cells #[.int .i64 (k : Int), .int .i64 wt, .int .i64 0, .bool false, .slice none 0 0] 110)
  have hnew := Blk.new w #[.int .i64 (k : Int), .int .i64 wt, .int .i64 0, .bool false, .slice none 0 0] 110
  have h1 := h.chain hb
  have hn := getQ_none.1 hg
  obtain ⟨cs, hcb, hc⟩ := h1.s
  have hz := hc.z
  have hB : ∀ f ∈ S.qs, (m.add k w.heap.size).B f.id = m.B f.id := fun f hf => if_neg (hn f hf)
  have hV : ∀ f ∈ S.qs, (m.add k w.heap.size).V f.id = m.V f.id := fun f hf => if_neg (hn f hf)
  have hBk : (m.add k w.heap.size).B k = w.heap.size := if_pos rfl
  have hVk : (m.add k w.heap.size).V k = .slice none 0 0 := if_pos rfl
  have hmem : ∀ f ∈ (addP S k wt).qs, f ∈ S.qs ∨ f = ⟨k, wt, 0, false, []⟩ := fun f hf => by
    rcases List.mem_append.1 hf with hf | hf
    · exact .inl hf
    · exact .inr (List.mem_singleton.1 hf)
  have hlt := h.blt
  refine ⟨⟨_, hcb.setAt _ _ rfl, ⟨by simpa using hc.z, ?_, fun i hi => ?_, ?_, ?_⟩⟩, ?_, fun f hf => ?_, fun f hf => ?_, h.bs, fun f hf => ?_, fun f hf f' hf' hne => ?_, fun f hf f' hf' hne => ?_⟩
  · rw [Array.getElem?_setIfInBounds, if_neg (by omega)]
    exact hc.q
  · rw [Array.getElem?_setIfInBounds]
    show _ = some (ptrQ (m.add k w.heap.size) (getQ (i : Int) (S.qs ++ [⟨k, wt, 0, false, []⟩])))
    rw [getQ_app]
    by_cases e : i = k
    · subst e
      rw [if_pos rfl, if_pos (by omega), hg]
      simp only [getQ, if_true, ptrQ, hBk]
    · rw [if_neg (by omega), hc.p i hi]
      cases hgi : getQ (i : Int) S.qs with
      | some q =>
        simp only [ptrQ]
        rw [hB q (getQ_mem hgi).1]
      | none =>
        have : ¬ (k : Int) = (i : Int) := by omega
        simp only [getQ, if_neg this, ptrQ]
  · rw [Array.getElem?_setIfInBounds, if_neg (by omega)]
    exact hc.r
  · rw [Array.getElem?_setIfInBounds, if_neg (by omega)]
    exact hc.n
  · have hr : rdC (m.add k w.heap.size) (addP S k wt).round = rdC m S.round := by
      unfold rdC addP
      refine List.map_congr_left fun i hi => ?_
      obtain ⟨q, hq, _⟩ := (ho.rm i).1 hi
      obtain ⟨h2, rfl⟩ := getQ_mem hq
      rw [hB q h2]
    rw [hr]
    exact h1.r.setOther _ _ (h1.r.ne_blk hcb (by decide))
  · rcases hmem f hf with hf | rfl
    · rw [hB f hf, hV f hf]
      exact (h1.q f hf).setOther _ _ ((h1.q f hf).ne_ty hcb (by decide))
    · simp only [hBk, hVk]
      exact hnew.setOther _ _ (hnew.ne_ty hcb (by decide))
  · rcases hmem f hf with hf | rfl
    · rw [hV f hf]
      exact (h1.i f hf).setOther _ _ ((h1.i f hf).ne_blk hcb (by decide))
    · simp only [hVk]
      exact Seg.nil _ _ _ _
  · rcases hmem f hf with hf | rfl
    · rw [hB f hf]; exact h.bb f hf
    · simp only [hBk]; have := h.bs; omega
  · rcases hmem f hf with hf | rfl <;> rcases hmem f' hf' with hf' | rfl
    · rw [hB f hf, hB f' hf']; exact h.bi f hf f' hf' hne
    · simp only [hBk]; rw [hB f hf]; have := (h.q f hf).lt; omega
    · simp only [hBk]; rw [hB f' hf']; have := (h.q f' hf').lt; omega
    · exact absurd rfl hne
  · intro g hgo
    rcases hmem f hf with hf | rfl <;> rcases hmem f' hf' with hf' | rfl
    · rw [hV f hf] at hgo; rw [hV f' hf']; exact h.vi f hf f' hf' hne g hgo
    · simp only [hVk]; simp [Value.ownBlock]
    · simp only [hVk] at hgo; simp [Value.ownBlock] at hgo
    · exact absurd rfl hne
theorem own_add {bs : Nat} {S : PS} {m : DM} {k : Int} {b : Nat} {wt : Int} {x : Nat} (hn : ∀ q ∈ S.qs, q.id ≠ k) (hx : x ∈ ownM bs (addP S k wt) (m.add k b)) : x ∈ ownM bs S m ∨ x = b := by
  rcases own_cases hx with e | hx | ⟨f, hf, hx⟩
  · exact .inl (by rw [e]; exact own_bs _ _ _)
  · exact .inl (own_rv _ _ _ hx)
  · rcases List.mem_append.1 hf with hf | hf
    · rcases hx with e | hx
      · rw [show (m.add k b).B f.id = m.B f.id from if_neg (hn f hf)] at e
        exact .inl (by rw [e]; exact own_B bs hf)
      · rw [show (m.add k b).V f.id = m.V f.id from if_neg (hn f hf)] at hx
        exact .inl (own_V bs hf hx)
    · obtain rfl := List.mem_singleton.1 hf
      rcases hx with e | hx
      · exact .inr (by rw [e]; exact if_pos rfl)
      · rw [show (m.add k b).V k = .slice none 0 0 from if_pos rfl] at hx
        simp [Value.ownBlock] at hx
theorem dadd_nil (id wt : Int) (w : World) : Calls Try.prog 18 #[.pointer none, .int .i64 id, .int .i64 wt] w fun e w' => e = .returned (.int .i64 17) ∧ w = w' := by
  go_enter Try.func18, Try.ntmps18
  go_wp2_with fail
  go_ret
  exact ⟨rfl, rfl⟩
theorem dadd_any (bs base : Nat) (S : PS) (m : DM) (n id wt : Int) (w : World) (h : SchM w base bs S m n) (ho : S.Ok) : Calls Try.prog 18 #[.pointer (some ⟨bs, 0, none⟩), .int .i64 id, .int .i64 wt] w fun e w' => e = .returned (.int .i64 (addE S id wt)) ∧ DPost base bs S m w (if addE S id wt = 0 then addP S id wt else S) n w' := by
  by_cases hbad : id < 0 ∨ 255 < id ∨ wt < 1 ∨ 255 < wt
  · have he : addE S id wt = 2 := if_pos hbad
    rw [he, if_neg (by decide)]
    have fin : ∀ e w', e = Ending.returned (.int .i64 2) ∧ w = w' → e = Ending.returned (.int .i64 2) ∧ DPost base bs S m w S n w' := fun e w' ⟨h1, h2⟩ => ⟨h1, h2 ▸ DPost.refl h⟩
    refine Calls.mono ?_ fin
    clear fin h ho he
    by_cases h1 : id < 0
    · go_enter Try.func18, Try.ntmps18
      go_wp2_with fail
      go_ret
      exact ⟨rfl, rfl⟩
    · by_cases h2 : 255 < id
      · go_enter Try.func18, Try.ntmps18
        go_wp2_with fail
        go_ret
        exact ⟨rfl, rfl⟩
      · by_cases h3 : wt < 1
        · go_enter Try.func18, Try.ntmps18
          go_wp2_with fail
          go_ret
          exact ⟨rfl, rfl⟩
        · have h4 : 255 < wt := by omega
          clear hbad
          go_enter Try.func18, Try.ntmps18
          go_wp2_with fail
          go_ret
          exact ⟨rfl, rfl⟩
  · obtain ⟨k, rfl⟩ : ∃ k : Nat, id = (k : Int) := ⟨id.toNat, by omega⟩
    have hc := h.cells.2.2.2.2 k (by omega)
    have hfr := h.cells.2.2.2.1
    have h1 : ¬ (k : Int) < 0 := by omega
    have h2 : ¬ 255 < (k : Int) := by omega
    have h3 : ¬ wt < 1 := by omega
    have h4 : ¬ 255 < wt := by omega
    have h5 : (k : Int) < 256 := by omega
    have h6 : (0 : Int) ≤ (k : Int) := by omega
    have hk : k < 256 := by omega
    cases hg : getQ (k : Int) S.qs with
    | some q =>
      have he : addE S k wt = 8 := by unfold addE; rw [if_neg hbad, hg]; rfl
      rw [he, if_neg (by decide)]
      have fin : ∀ e w', e = Ending.returned (.int .i64 8) ∧ w = w' → e = Ending.returned (.int .i64 8) ∧ DPost base bs S m w S n w' := fun e w' ⟨h1, h2⟩ => ⟨h1, h2 ▸ DPost.refl h⟩
      refine Calls.mono ?_ fin
      rw [hg] at hc
      unfold ptrQ at hc
      clear fin h ho he hg hbad hk
      go_enter Try.func18, Try.ntmps18
      go_wp2_with fail
      go_ret
      exact ⟨rfl, rfl⟩
    | none =>
      have he : addE S k wt = 0 := by unfold addE; rw [if_neg hbad, hg]; rfl
      rw [he, if_pos rfl]
      have fin : DPost base bs S m w (addP S k wt) n ((w.alloc (.cells #[.int .i64 (k : Int), .int .i64 wt, .int .i64 0, .bool false, .slice none 0 0] 110)).setCell ⟨bs, 1 + k, none⟩ (.pointer (some ⟨w.heap.size, 0, none⟩))) :=
        ⟨_, h.add ho k hk wt hg, ((Only.refl _ _).alloc _).setCell _ _ (.inl (own_bs _ _ _)), fun x hx => (own_add (getQ_none.1 hg) hx).imp id (fun e => by omega)⟩
      have FIN := Lib.hid fin
      have hlt := h.blt
      rw [hg] at hc
      unfold ptrQ at hc
      clear fin h ho he hg hbad hk
      go_enter Try.func18, Try.ntmps18
      go_wp2_with fail
      go_ret
      rw [setCell_alloc hlt]
      exact ⟨rfl, FIN.out⟩
end Go.Proofs.Ytgfbhclkpephnaa
