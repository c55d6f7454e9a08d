/-
  Whose turn it is: Remove (chapter 17).
-/
import Derived.Test.YtgfbhclkpephnaaDr7
import Derived.LaidEqlPtr
namespace Go.Proofs.Ytgfbhclkpephnaa
open Go Go.RowKit
set_option linter.unusedVariables false
set_option linter.unusedSimpArgs false
set_option maxRecDepth 100000
set_option maxHeartbeats 2000000
def remP (S : PS) (id : Int) : PS := { S with qs := S.qs.filter (fun q => !decide (q.id = id)), round := S.round.filter (fun i => !decide (i = id)) }
theorem getQ_rem (id i : Int) : ∀ l : List PQ, getQ i (l.filter (fun q => !decide (q.id = id))) = if i = id then none else getQ i l
  | [] => by simp [getQ]
  | q :: l => by
    by_cases h : q.id = id
    · rw [List.filter_cons_of_neg (by simp [h]), getQ_rem id i l]
      by_cases hi : i = id
      · rw [if_pos hi, if_pos hi]
      · rw [if_neg hi, if_neg hi]
        show _ = (if q.id = i then some q else getQ i l)
        rw [if_neg (fun e => hi (by rw [← e, h]))]
    · rw [List.filter_cons_of_pos (by simp [h])]
      show (if q.id = i then some q else getQ i (l.filter _)) = if i = id then none else (if q.id = i then some q else getQ i l)
      by_cases hq : q.id = i
      · rw [if_pos hq, if_neg (fun e => h (by rw [hq, e])), if_pos hq]
      · rw [if_neg hq, getQ_rem id i l, if_neg hq]
theorem remP_ok {S : PS} (h : S.Ok) (id : Int) : (remP S id).Ok := by
  refine ⟨h.qm, List.Sublist.nodup ((List.filter_sublist).map _) h.nd, fun q hq => h.q q (List.mem_filter.1 hq).1, h.rn.filter _, fun i => ?_⟩
  show i ∈ S.round.filter _ ↔ ∃ q, getQ i (S.qs.filter _) = some q ∧ q.items ≠ []
  rw [getQ_rem, List.mem_filter, h.rm i]
  by_cases hi : i = id
  · simp [hi]
  · simp [hi]
theorem SchC.rem {cs : Array Value} {S : PS} {m : DM} {n n' : Int} {k : Nat} {rv : Value} (h : SchC cs S m n) (hk : k < 256) : SchC (((cs.setIfInBounds (1 + k) (.pointer none)).setIfInBounds 258 (.int .i64 n')).setIfInBounds 257 rv) (remP S k) { m with rv := rv } n' := by
  have hz := h.z
  refine ⟨by simp [hz], ?_, fun i hi => ?_, ?_, ?_⟩
  · rw [Array.getElem?_setIfInBounds, if_neg (by decide), Array.getElem?_setIfInBounds, if_neg (by decide), Array.getElem?_setIfInBounds, if_neg (by omega)]
    exact h.q
  · rw [Array.getElem?_setIfInBounds, if_neg (by omega), Array.getElem?_setIfInBounds, if_neg (by omega), Array.getElem?_setIfInBounds]
    show _ = some (ptrQ _ (getQ (i : Int) (S.qs.filter _)))
    rw [getQ_rem]
    by_cases e : i = k
    · subst e
      rw [if_pos rfl, if_pos (by omega), if_pos rfl]
      rfl
    · rw [if_neg (by omega), if_neg (by omega), h.p i hi]
      cases getQ (i : Int) S.qs <;> rfl
  · rw [Array.getElem?_setIfInBounds, if_pos rfl, if_pos (by simp [hz])]
  · rw [Array.getElem?_setIfInBounds, if_neg (by decide), Array.getElem?_setIfInBounds, if_pos rfl, if_pos (by simp [hz])]
/-- The round without a queue, by blocks. -/
theorem rem_round {S : PS} {m : DM} {w : World} {base bs : Nat} {n : Int} (h : SchM w base bs S m n) (ho : S.Ok) {q : PQ} (hq : q ∈ S.qs) : bkC (keptN (fun x => decide (x = m.B q.id)) (S.round.map m.B)) = rdC m (S.round.filter fun i => !decide (i = q.id)) := by
  unfold keptN bkC rdC
  rw [List.filter_map, List.map_map]
  congr 1
  refine List.filter_congr fun i hi => ?_
  obtain ⟨f, hf, _⟩ := (ho.rm i).1 hi
  obtain ⟨hm, rfl⟩ := getQ_mem hf
  simp only [Function.comp_apply]
  by_cases e : f.id = q.id
  · simp [e]
  · have := h.bi f hm q hq e
    simp [e, this]
theorem rdC_bk (m : DM) (l : List Int) : rdC m l = bkC (l.map m.B) := by
  unfold rdC bkC
  rw [List.map_map]
  rfl
theorem SchM.rem {w W4 : World} {base bs : Nat} {S : PS} {m : DM} {n n' : Int} {k : Nat} {rv : Value} {cs : Array Value} (h : SchM w base bs S m n) (hk : k < 256) (hc : SchC cs S m n) (ho : Only (bs :: m.rv.ownBlock.toList) w W4) (hb : Blk W4 bs ((cs.setIfInBounds (1 + k) (.pointer none)).setIfInBounds 258 (.int .i64 n')) 98)
    (hs : Seg W4 base 94 1 rv (S.round.filter fun i => !decide (i = (k : Int))).length (rdC m (S.round.filter fun i => !decide (i = (k : Int))))) : SchM (W4.setCell ⟨bs, 257, none⟩ rv) base bs (remP S k) { m with rv := rv } n' := by
  obtain ⟨cs0, hcs0, _⟩ := h.s
  have hX : ∀ {b : Nat} {c : Array Value} {t : TypeId}, Blk w b c t → t ≠ 98 → t ≠ 94 → Blk (W4.setCell ⟨bs, 257, none⟩ rv) b c t := fun hb' h1 h2 => by
    refine (hb'.only ho (fun hm => ?_)).setOther _ _ (hb'.ne_ty hcs0 h1)
    rcases List.mem_cons.1 hm with e | hm
    · exact hb'.ne_ty hcs0 h1 e
    · obtain ⟨cur, hh⟩ := h.r.heap (g := _) (by simpa using hm)
      exact Blk.ne_ty (cs := cur) hh hb' (fun e => h2 e.symm) rfl
  have hmem : ∀ f ∈ (remP S k).qs, f ∈ S.qs := fun f hf => (List.mem_filter.1 hf).1
  refine ⟨⟨_, hb.setAt 257 rv rfl, hc.rem hk⟩, hs.setOther _ _ (hs.ne_blk hb (by decide)), fun f hf => hX (h.q f (hmem f hf)) (by decide) (by decide), fun f hf => ?_, h.bs, fun f hf => h.bb f (hmem f hf), fun f hf f' hf' => h.bi f (hmem f hf) f' (hmem f' hf'), fun f hf f' hf' => h.vi f (hmem f hf) f' (hmem f' hf')⟩
  have hi := h.i f (hmem f hf)
  refine (hi.only ho (fun g hg hm => ?_)).setOther _ _ (hi.ne_blk hcs0 (by decide))
  rcases List.mem_cons.1 hm with e | hm
  · exact hi.ne_blk hcs0 (by decide) g hg e
  · exact hi.ne_seg h.r (by decide) g hg (by simpa using hm)
theorem own_rem {bs : Nat} {S : PS} {m : DM} {id : Int} {rv : Value} {y : Nat} (hv : rv.ownBlock = m.rv.ownBlock) (hy : y ∈ ownM bs (remP S id) { m with rv := rv }) : y ∈ ownM bs S m := by
  rcases own_cases hy with e | hy | ⟨f, hf, hy⟩
  · rw [e]; exact own_bs _ _ _
  · exact own_rv _ _ _ (by rw [← hv]; exact hy)
  · have hf' := (List.mem_filter.1 hf).1
    rcases hy with e | hy
    · rw [e]; exact own_B bs (m := m) hf'
    · exact own_V bs (m := m) hf' hy
theorem drem_nil (id : Int) (w : World) : Calls Try.prog 22 #[.pointer none, .int .i64 id] w fun e w' => e = .returned (.int .i64 17) ∧ Below w.heap.size w w' := by
  have hat := dat_nil id w
  go_enter Try.func22, Try.ntmps22
  go_wp2_with fail
  refine hat.mono ?_
  rintro e w1 ⟨rfl, rfl⟩
  go_wp2_with fail
  go_ret
  exact ⟨rfl, Below.chainAlloc (Below.refl _ _) _⟩
theorem drem_none (bs base : Nat) (S : PS) (m : DM) (n id : Int) (w : World) (h : SchM w base bs S m n) (ho : S.Ok) (hg : getQ id S.qs = none) : Calls Try.prog 22 #[.pointer (some ⟨bs, 0, none⟩), .int .i64 id] w fun e w' => e = .returned (.int .i64 7) ∧ Below w.heap.size w w' := by
  have hat := dat_any bs base S m n id w h ho
  rw [hg] at hat
  unfold ptrQ at hat
  clear h ho hg
  go_enter Try.func22, Try.ntmps22
  go_wp2_with fail
  refine hat.mono ?_
  rintro e w1 ⟨rfl, rfl⟩
  go_wp2_with fail
  go_ret
  exact ⟨rfl, Below.chainAlloc (Below.refl _ _) _⟩
theorem infoQ : (Try.prog.info? 110).map (fun i => i.size) = some 5 := by kernel_rfl
theorem rem_cl (x b bc : Nat) (w : World) (hb : Blk w bc #[.pointer (some ⟨b, 0, none⟩)] 94) {cx cb : Array Value} (h1 : Blk w x cx 110) (h2 : Blk w b cb 110) : Calls Try.prog 53 #[ptB x, .pointer (some ⟨bc, 0, none⟩)] w (RetB (.bool (decide (x = b))) w) := by
  have c0 := hb.facts.1 0
  unfold RetB
  obtain ⟨j, hj, hz⟩ := Option.map_eq_some_iff.1 infoQ
  have hrun : (binOp .eql 94 (.pointer (some ⟨x, 0, none⟩)) (.pointer (some ⟨b, 0, none⟩))).run Try.prog w = .ok (.bool (decide (x = b))) w := by
    by_cases e : x = b
    · subst e
      rw [decide_eq_true rfl]
      exact run_eql_ptr_same w _ Try.underlying94 hj
    · rw [decide_eq_false e]
      exact run_eql_ptr_other w Try.underlying94 hj (by omega) (by intro h; cases h; exact e rfl) h1 h2
  unfold ptB
  clear h1 h2 hb
  go_enter Try.func53, Try.ntmps53
  go_wp2_with fail
  go_ret
  exact ⟨rfl, Below.refl _ _⟩
end Go.Proofs.Ytgfbhclkpephnaa
