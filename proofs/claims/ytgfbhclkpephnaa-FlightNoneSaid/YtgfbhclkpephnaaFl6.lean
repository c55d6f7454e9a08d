/-
  Blocks that were sent: Due (chapter 22).
-/
import Derived.Test.YtgfbhclkpephnaaFl5
namespace Go.Proofs.Ytgfbhclkpephnaa
open Go Go.RowKit Go.Shelf
set_option linter.unusedVariables false
set_option linter.unusedSimpArgs false
set_option maxRecDepth 100000
set_option maxHeartbeats 2000000
attribute [local go_sem] Oper.semAt_some
theorem flall_any (bf : Nat) (w : World) : Calls Try.prog 60 #[.pointer (some ⟨bf, 0, none⟩)] w fun e w' => e = .returned (.func (.func 88) #[] #[.pointer (some ⟨w.heap.size, 0, none⟩)]) ∧ Blk w' w.heap.size #[.pointer (some ⟨bf, 0, none⟩)] 56 ∧ Below w.heap.size w w' ∧ w'.heap.size = w.heap.size + 1 := by
  have HK := Lib.hid (Blk.new w #[.pointer (some ⟨bf, 0, none⟩)] 56)
  have HB := Lib.hid (Below.chainAlloc (Below.refl _ w) (.cells #[.pointer (some ⟨bf, 0, none⟩)] 56))
  have hmf : ∀ (fn : Fn) (first cap : Array Value) (w : World), (Instr.makeFunc fn first cap).run Try.prog w = .ok (.func fn first cap) w := fun _ _ _ _ => rfl
  go_enter Try.func60, Try.ntmps60
  go_wp2_with fail
  go_ret
  exact ⟨rfl, HK.out, HB.out, size_alloc _ _⟩
/-- One block looked at. -/
def dueS (b now wait : Int) (st : List FB × List Int) (i : Nat) : List FB × List Int :=
  match st.1[i]? with
  | none => st
  | some x => if x.at' ≤ now - wait then (st.1.set i ⟨x.body, x.n, now⟩, st.2 ++ [(b + (i : Int)) % 4294967296]) else st
theorem dueS_len (b now wait : Int) (st : List FB × List Int) (i : Nat) : (dueS b now wait st i).1.length = st.1.length := by
  unfold dueS
  cases st.1[i]? with
  | none => rfl
  | some x =>
    simp only
    split
    · simp
    · rfl
def dueF (b now wait : Int) (L : List FB) (pre : List Nat) : List FB × List Int := pre.foldl (dueS b now wait) (L, [])
theorem dueF_snoc (b now wait : Int) (L : List FB) (pre : List Nat) (i : Nat) : dueF b now wait L (pre ++ [i]) = dueS b now wait (dueF b now wait L pre) i := by simp [dueF]
theorem dueF_len (b now wait : Int) (L : List FB) (pre : List Nat) : (dueF b now wait L pre).1.length = L.length := by
  suffices h : ∀ st : List FB × List Int, (pre.foldl (dueS b now wait) st).1.length = st.1.length from h _
  induction pre with
  | nil => intro st; rfl
  | cons i pre ih => intro st; rw [List.foldl_cons, ih, dueS_len]
theorem dueF_out (b now wait : Int) (L : List FB) (pre : List Nat) : (dueF b now wait L pre).2.length ≤ pre.length := by
  suffices h : ∀ st : List FB × List Int, (pre.foldl (dueS b now wait) st).2.length ≤ st.2.length + pre.length from by unfold dueF; simpa using h (L, [])
  induction pre with
  | nil => intro st; simp
  | cons i pre ih =>
    intro st
    rw [List.foldl_cons]
    have h1 := ih (dueS b now wait st i)
    have h2 : (dueS b now wait st i).2.length ≤ st.2.length + 1 := by
      unfold dueS
      cases st.1[i]? with
      | none => simp
      | some x =>
        simp only
        split
        · simp
        · simp
    simp only [List.length_cons]
    omega
/-- What stands between two rounds. -/
structure InvD (w : World) (B bf g off c n : Nat) (b z now wait : Int) (L : List FB) (pre : List (Fin n)) (W : World) : Prop where
  o : ∃ v, Boxed W (w.heap.size + 2) 64 v ∧ W.ownsRow (w.heap.size + 4) 53 1 v (dueF b now wait L (pre.map Fin.val)).2.length ((dueF b now wait L (pre.map Fin.val)).2.map (Value.int .u32))
  k0 : Boxed W w.heap.size 3 (.int .i64 now)
  k1 : Boxed W (w.heap.size + 1) 3 (.int .i64 wait)
  kx : Boxed W (w.heap.size + 3) 56 (.pointer (some ⟨bf, 0, none⟩))
  m : FlM W B bf b z (.slice (some ⟨g, off, none⟩) n c) (dueF b now wait L (pre.map Fin.val)).1
  ow : Only [g] w W
  sz : w.heap.size + 4 ≤ W.heap.size
theorem grownBy_setAt (w : World) (g o : Nat) (u : Value) : w.grownBy (w.setCell ⟨g, o, none⟩ u) (some g) := ⟨rfl, rfl, rfl, by simp [World.setCell], fun k _ hn => Below.heap_setCell _ _ _ _ (fun e => hn (by rw [e]))⟩
theorem infoU32 : (Try.prog.info? 53).map (fun i => (i.zero, i.size, i.bytes)) = some (some (.int .u32 0), 1, 4) := by kernel_rfl
theorem owns_low' {W : World} {base base' : Nat} {e : TypeId} {size : Nat} {v : Value} {n : Nat} {xs : List Value} (h : W.ownsRow base e size v n xs) (hb : base' ≤ base) : W.ownsRow base' e size v n xs :=
  ⟨h.1, h.2.imp id (fun ⟨g, cap, cur, hv, hg, r⟩ => ⟨g, cap, cur, hv, Nat.le_trans hb hg, r⟩)⟩
theorem owns_blk' {W : World} {base : Nat} {e : TypeId} {size : Nat} {v : Value} {n : Nat} {xs : List Value} (h : W.ownsRow base e size v n xs) : ∀ g, v.ownBlock = some g → base ≤ g ∧ ∃ cur, W.heap[g]? = some (.cells cur e (0, 0)) := fun g hg => by
  rcases h.2 with ⟨rfl, _⟩ | ⟨g', cap, cur, rfl, hb, hh, _⟩
  · cases hg
  · obtain rfl : g' = g := by simpa [Value.ownBlock] using hg
    exact ⟨hb, _, hh⟩
theorem owns_seg {W : World} {base : Nat} {e : TypeId} {size : Nat} {v : Value} {n : Nat} {xs : List Value} (h : W.ownsRow base e size v n xs) : Seg W base e size v n xs := by
  obtain ⟨h1, h2⟩ := h
  refine ⟨h1, ?_⟩
  rcases h2 with ⟨rfl, rfl⟩ | ⟨g, cap, cur, rfl, hb, hh, hc, hm, hs, ht⟩
  · exact .inl ⟨rfl, rfl⟩
  · exact .inr ⟨g, 0, cap, cur, rfl, hb, hh, hc, hm, by omega, by simpa using ht⟩
theorem invD_own {w : World} {B bf g off c n : Nat} {b z now wait : Int} {L : List FB} (B0 : Nat) (hB : w.heap.size ≤ B0) : OwnO B0 (fun _ => False) (InvD w B bf g off c n b z now wait L) := by
  rintro s W W' row ⟨⟨v, hv, hr⟩, h0, h1, hx, hm, ho, hsz⟩ hg hrow
  have hnc : ∀ k cs t, W.heap[k]? = some (.cells cs t (0, 0)) → some k ≠ row := fun k cs t hk e => by
    rcases hrow _ e.symm with h | ⟨_, o, ho, hc⟩
    · exact h
    · rw [hk] at ho
      cases ho
      cases hc
  refine ⟨⟨v, hv.kept hg (hnc _ _ _ hv), hr.kept hg ?_⟩, h0.kept hg (hnc _ _ _ h0), h1.kept hg (hnc _ _ _ h1), hx.kept hg (hnc _ _ _ hx), ⟨?_, ?_⟩, ⟨hg.os.trans ho.os, hg.tape.trans ho.tape, hg.output.trans ho.output, Nat.le_trans ho.size hg.size, fun k hk hn => (hg.block k (Nat.lt_of_lt_of_le hk ho.size) (fun e => ?_)).trans (ho.block k hk hn)⟩, Nat.le_trans hsz hg.size⟩
  · cases hb : v.ownBlock with
    | none => exact .inl rfl
    | some y =>
      obtain ⟨_, cur, hh⟩ := owns_blk' hr y hb
      exact .inr (hnc _ _ _ hh)
  · exact (hg.block _ hm.k.lt (hnc _ _ _ hm.k)).trans hm.k
  · exact hm.s.same fun y hy => by
      obtain ⟨cur, hh⟩ := hm.s.heap' hy
      exact hg.block _ (Array.getElem?_eq_some_iff.1 hh).1 (hnc _ _ _ hh)
  · rcases hrow _ e.symm with h | ⟨h, _⟩
    · exact h
    · omega
theorem heap_set_same' {w : World} {g o : Nat} {cur : Array Value} {e : TypeId} (u : Value) (h : w.heap[g]? = some (.cells cur e (0, 0))) : (w.setCell ⟨g, o, none⟩ u).heap[g]? = some (.cells (cur.setIfInBounds o u) e (0, 0)) := by
  have hb : Blk w g cur e := h
  exact Blk.setAt hb o u rfl
/-- A cell of its own is stored. -/
theorem Seg.put' {w : World} {base : Nat} {e : TypeId} {size n g off cap : Nat} {xs : List Value} (h : Seg w base e size (.slice (some ⟨g, off, none⟩) n cap) n xs) (j : Nat) (u : Value) (hj : j < n * size) : Seg (w.setCell ⟨g, off + j, none⟩ u) base e size (.slice (some ⟨g, off, none⟩) n cap) n (xs.set j u) := by
  obtain ⟨h1, h2⟩ := h
  rcases h2 with ⟨h0, _⟩ | ⟨g', off', cap', cur, hv, hg, hh, hn, hc, hs, ht⟩
  · cases h0
  · cases hv
    refine ⟨by rw [List.length_set]; exact h1, .inr ⟨g, off, cap, _, rfl, hg, heap_set_same' u hh, hn, hc, by simpa using hs, ?_⟩⟩
    rw [Array.toList_setIfInBounds, ← ht]
    apply List.ext_getElem?
    intro i
    rw [List.getElem?_take, List.getElem?_drop, List.getElem?_set, List.getElem?_set, List.getElem?_take, List.getElem?_drop]
    have hlen : off + j < cur.toList.length := by
      have h3 : ((cur.toList.drop off).take (n * size)).length = n * size := by rw [ht]; exact h1
      rw [List.length_take, List.length_drop] at h3
      omega
    have hlen2 : j < ((cur.toList.drop off).take (n * size)).length := by rw [ht, h1]; exact hj
    by_cases e1 : j = i
    · subst e1
      rw [if_pos hj, if_pos rfl, if_pos hlen, if_pos rfl, if_pos hlen2]
    · rw [if_neg e1]
      by_cases hi : i < n * size
      · rw [if_pos hi, if_neg (by omega), if_pos hi]
      · rw [if_neg hi, if_neg hi]
theorem fbC_setAt : ∀ (L : List FB) (k : Nat) (hk : k < L.length) (t : Int), (fbC L).set (k * 3 + 2) (.int .i64 t) = fbC (L.set k ⟨L[k].body, L[k].n, t⟩)
  | x :: L, 0, _, t => rfl
  | x :: L, k + 1, hk, t => by
    have hk' : k < L.length := by simpa using hk
    have ih := fbC_setAt L k hk' t
    show _ = FB.vals x ++ fbC (L.set k _)
    rw [show (x :: L)[k + 1] = L[k] from rfl, ← ih]
    show List.set _ _ _ = _
    rw [show (k + 1) * 3 + 2 = (k * 3 + 2) + 1 + 1 + 1 by omega]
    rfl
theorem InvD.same {w : World} {B bf g off c n : Nat} {b z now wait : Int} {L : List FB} {pre pre' : List (Fin n)} {W : World} (h : InvD w B bf g off c n b z now wait L pre W) (he : dueF b now wait L (pre'.map Fin.val) = dueF b now wait L (pre.map Fin.val)) : InvD w B bf g off c n b z now wait L pre' W :=
  ⟨by rw [he]; exact h.o, h.k0, h.k1, h.kx, by rw [he]; exact h.m, h.ow, h.sz⟩
theorem InvD.kp {w : World} {B bf g off c n : Nat} {b z now wait : Int} {L : List FB} {pre pre' : List (Fin n)} {W W' : World} (h : InvD w B bf g off c n b z now wait L pre W) (h' : InvD w B bf g off c n b z now wait L pre' W') (hs : W.heap.size ≤ W'.heap.size) : KpL (w.heap.size + 3) bf W W' :=
  ⟨hs, h'.kx.trans h.kx.symm, h'.m.k.trans h.m.k.symm⟩
theorem keeps_below {W W' : World} (hb : Below W.heap.size W W') : KeepsOthers W W' :=
  ⟨hb.size, fun k o h _ => (hb.block k (Array.getElem?_eq_some_iff.1 h).1).trans h⟩
/-- What lies behind an append to the box. -/
structure Push (w : World) (B bf g off c n : Nat) (b z now wait : Int) (v : Value) (L' : List FB) (w3 : World) : Prop where
  kv : Boxed w3 (w.heap.size + 2) 64 v
  k0 : Boxed w3 w.heap.size 3 (.int .i64 now)
  k1 : Boxed w3 (w.heap.size + 1) 3 (.int .i64 wait)
  kx : Boxed w3 (w.heap.size + 3) 56 (.pointer (some ⟨bf, 0, none⟩))
  m : FlM w3 B bf b z (.slice (some ⟨g, off, none⟩) n c) L'
  ow : Only [g] w w3
  sz : w.heap.size + 4 ≤ w3.heap.size
theorem Push.grow {w W1 w3 : World} {B bf g off c n m : Nat} {b z now wait : Int} {v : Value} {L' : List FB} {xs : List Value} (h : Push w B bf g off c n b z now wait v L' W1) (hrow : W1.ownsRow (w.heap.size + 4) 53 1 v m xs) {tmp : Obj} (hgrow : (W1.alloc tmp).grownBy w3 v.ownBlock) : Push w B bf g off c n b z now wait v L' w3 := by
  have hlo : ∀ k, k < w.heap.size + 4 → some k ≠ v.ownBlock := fun k hk e => by
    have := (owns_blk' hrow k e.symm).1
    omega
  have hty : ∀ k cs t, W1.heap[k]? = some (.cells cs t (0, 0)) → t ≠ 53 → some k ≠ v.ownBlock := fun k cs t hk ht e => by
    obtain ⟨_, cur, hh⟩ := owns_blk' hrow k e.symm
    rw [hk] at hh
    cases hh
    exact ht rfl
  have hm := h.m
  refine ⟨(h.kv.alloc tmp).kept hgrow (hlo _ (by omega)), (h.k0.alloc tmp).kept hgrow (hlo _ (by omega)), (h.k1.alloc tmp).kept hgrow (hlo _ (by omega)), (h.kx.alloc tmp).kept hgrow (hlo _ (by omega)), ⟨(hm.k.alloc tmp).grown hgrow (hty _ _ _ hm.k (by decide)), (hm.s.alloc tmp).same fun y hy => ?_⟩, Only.grown (h.ow.alloc tmp) hgrow (fun y hy => .inr (by have := (owns_blk' hrow y hy).1; omega)), ?_⟩
  · obtain ⟨cur, hh⟩ := hm.s.heap' hy
    have h1 := (hm.s.blk y hy).2
    exact hgrow.block _ (by rw [size_alloc]; omega) (hty _ _ _ hh (by decide))
  · have h1 := hgrow.size
    have h2 := h.sz
    rw [size_alloc] at h1
    omega
theorem Push.el {w w3 : World} {B bf g off c n : Nat} {b z now wait : Int} {v : Value} {L' : List FB} {k : Nat} (h : Push w B bf g off c n b z now wait v L' w3) (hn : n = L'.length) (hk : k < L'.length) : w3.cell? ⟨g, off + k * 3 + 2, none⟩ = some (.int .i64 L'[k].at') ∧ w3.frozen? ⟨g, off + k * 3 + 2, none⟩ = false ∧ g ≠ w.heap.size + 1 + 1 := by
  obtain ⟨cur, hh⟩ := h.m.s.heap' (g := g) rfl
  refine ⟨(h.m.row hn k hk).2.2, ?_, h.m.s.ne_blk' (b := w.heap.size + 2) (cs := #[v]) (t := 64) h.kv (by decide) g rfl⟩
  unfold World.frozen?
  rw [hh]
  rfl
/-- A round's end: the number stands in the list, the time in the block. -/
theorem Push.done {w w3 : World} {B bf g off c n : Nat} {b z now wait N : Int} {v v' : Value} {L L' : List FB} {out : List Int} {pre' : List (Fin n)} {k : Nat} (h : Push w B bf g off c n b z now wait v L' w3) (hn : n = L'.length) (hk : k < L'.length) (hown : w3.ownsRow (w.heap.size + 4) 53 1 v' (out.length + 1) (out.map (Value.int .u32) ++ [.int .u32 N]))
    (he : dueF b now wait L (pre'.map Fin.val) = (L'.set k ⟨L'[k].body, L'[k].n, now⟩, out ++ [N])) :
    InvD w B bf g off c n b z now wait L pre' ((w3.setCell ⟨w.heap.size + 2, 0, none⟩ v').setCell ⟨g, off + k * 3 + 2, none⟩ (.int .i64 now)) := by
  have hm := h.m
  have hg2 : g ≠ w.heap.size + 2 := hm.s.ne_blk' (b := w.heap.size + 2) (cs := #[v]) (t := 64) h.kv (by decide) g rfl
  have hg0 : g ≠ w.heap.size := hm.s.ne_blk' (b := w.heap.size) (cs := #[.int .i64 now]) (t := 3) h.k0 (by decide) g rfl
  have hg1 : g ≠ w.heap.size + 1 := hm.s.ne_blk' (b := w.heap.size + 1) (cs := #[.int .i64 wait]) (t := 3) h.k1 (by decide) g rfl
  have hg3 : g ≠ w.heap.size + 3 := hm.s.ne_blk' (b := w.heap.size + 3) (cs := #[.pointer (some ⟨bf, 0, none⟩)]) (t := 56) h.kx (by decide) g rfl
  have hgf : g ≠ bf := hm.s.ne_blk' hm.k (by decide) g rfl
  have hbf : bf ≠ w.heap.size + 2 := fun e => by
    have h1 : Blk w3 bf _ _ := hm.k
    have h2 : Blk w3 (w.heap.size + 2) #[v] 64 := h.kv
    unfold Blk at h1 h2
    rw [e, h2] at h1
    cases h1
  have hgo : ∀ y, v'.ownBlock = some y → y ≠ g ∧ y ≠ w.heap.size + 2 := fun y hy => by
    obtain ⟨h1, cur, hh⟩ := owns_blk' hown y hy
    refine ⟨fun e => ?_, by omega⟩
    obtain ⟨cur', hh'⟩ := hm.s.heap' (g := g) rfl
    rw [e, hh'] at hh
    cases hh
  have hseg := (hm.s.setOther ⟨w.heap.size + 2, 0, none⟩ v' (fun y hy => by
    obtain rfl : g = y := by simpa [Value.ownBlock] using hy
    exact hg2))
  rw [← hn] at hseg
  have hput := hseg.put' (k * 3 + 2) (.int .i64 now) (by omega)
  rw [fbC_setAt L' k hk now, ← Nat.add_assoc] at hput
  have kv2 : Boxed (w3.setCell ⟨w.heap.size + 2, 0, none⟩ v') (w.heap.size + 2) 64 v' := h.kv.set v'
  refine ⟨⟨v', ?_, ?_⟩, ?_, ?_, ?_, ⟨?_, ?_⟩, (h.ow.setCell _ _ (.inr (by show w.heap.size ≤ w.heap.size + 2; omega))).setCell _ _ (.inl (by simp)), by simpa [World.setCell] using h.sz⟩
  · exact Blk.setOther (cs := #[v']) (t := 64) kv2 _ _ (Ne.symm hg2)
  · rw [he]
    have h1 := hown.kept (grownBy_setCell' w3 (w.heap.size + 2) v') (.inr (fun e => by
      cases hb : v'.ownBlock with
      | none => rw [hb] at e; cases e
      | some y => rw [hb] at e; cases e; exact (hgo _ hb).2 rfl))
    have h2 := h1.kept (grownBy_setAt _ g (off + k * 3 + 2) (.int .i64 now)) (.inr (fun e => by
      cases hb : v'.ownBlock with
      | none => rw [hb] at e; cases e
      | some y => rw [hb] at e; cases e; exact (hgo _ hb).1 rfl))
    simpa using h2
  · exact Blk.setOther (cs := #[.int .i64 now]) (t := 3) (Blk.setOther (cs := #[.int .i64 now]) (t := 3) h.k0 _ _ (by simp)) _ _ (Ne.symm hg0)
  · exact Blk.setOther (cs := #[.int .i64 wait]) (t := 3) (Blk.setOther (cs := #[.int .i64 wait]) (t := 3) h.k1 _ _ (by simp)) _ _ (Ne.symm hg1)
  · exact Blk.setOther (cs := #[.pointer (some ⟨bf, 0, none⟩)]) (t := 56) (Blk.setOther (cs := #[.pointer (some ⟨bf, 0, none⟩)]) (t := 56) h.kx _ _ (by simp)) _ _ (Ne.symm hg3)
  · exact (hm.k.setOther _ _ hbf).setOther _ _ (Ne.symm hgf)
  · rw [he]
    show Seg _ B _ 3 _ (L'.set k _).length (fbC (L'.set k _))
    rw [List.length_set, ← hn]
    exact hput
end Go.Proofs.Ytgfbhclkpephnaa
