/-
  Whose turn it is: Push (chapter 17).
-/
import Derived.Test.YtgfbhclkpephnaaDr3
import Derived.Deep.RegionLaw
namespace Go.Proofs.Ytgfbhclkpephnaa
open Go Go.RowKit
set_option linter.unusedVariables false
set_option linter.unusedSimpArgs false
set_option maxRecDepth 100000
set_option maxHeartbeats 2000000
theorem infoItem : (Try.prog.info? 35).map (fun i => (i.zero, i.size, i.bytes)) = some (some (.agg #[.int .i64 0, .int .i64 0]), 2, 16) := by kernel_rfl
theorem infoPtr : (Try.prog.info? 94).map (fun i => (i.zero, i.size, i.bytes)) = some (some (.pointer none), 1, 8) := by kernel_rfl
theorem itC_snoc (l : List (Int × Int)) (x : Int × Int) : itC (l ++ [x]) = itC l ++ [.int .i64 x.1, .int .i64 x.2] := by simp [itC]
theorem rdC_snoc (m : DM) (l : List Int) (id : Int) : rdC m (l ++ [id]) = rdC m l ++ [.pointer (some ⟨m.B id, 0, none⟩)] := by simp [rdC]
theorem putQ_putQ {q q' : PQ} (h : q'.id = q.id) (l : List PQ) : putQ q' (putQ q l) = putQ q' l := by
  unfold putQ
  rw [List.map_map]
  refine List.map_congr_left fun f _ => ?_
  simp only [Function.comp_apply]
  by_cases e : f.id = q.id
  · rw [if_pos e, if_pos (show q.id = q'.id from h.symm), if_pos (by rw [e, h])]
  · rw [if_neg e]
/-- The items grew. -/
theorem tail_fin {base bs : Nat} {S St T : PS} {m mt : DM} {n : Int} {q1 : PQ} {x : Int × Int} {w wt : World} (ht : SchM wt base bs St mt n) (hg : getQ q1.id St.qs = some q1) (hS : { St with qs := putQ { q1 with items := q1.items ++ [x] } St.qs } = T) (hoT : Only (ownM bs S m) w wt) (hown : ∀ y ∈ ownM bs St mt, y ∈ ownM bs S m ∨ w.heap.size ≤ y)
    (n' : Int) (g off cp : Nat) (w5 : World) (hs : Seg w5 base 35 2 (.slice (some ⟨g, off, none⟩) (q1.items.length + 1) cp) (q1.items.length + 1) (itC q1.items ++ [.int .i64 x.1, .int .i64 x.2])) (hb : Blk w5 (mt.B q1.id) (q1.cells (mt.V q1.id)) 110) (ho : Only (mt.V q1.id).ownBlock.toList wt w5)
    (hat : (mt.V q1.id).ownBlock = some g ∨ wt.heap.size ≤ g) : DPost base bs S m w T n' ((w5.setCell ⟨mt.B q1.id, 4, none⟩ (.slice (some ⟨g, off, none⟩) (q1.items.length + 1) cp)).setCell ⟨bs, 258, none⟩ (.int .i64 n')) := by
  subst hS
  have hq := (getQ_mem hg).1
  have hs' : Seg (w5.setCell ⟨mt.B q1.id, 4, none⟩ (.slice (some ⟨g, off, none⟩) (q1.items.length + 1) cp)) base 35 2 (.slice (some ⟨g, off, none⟩) (q1.items.length + 1) cp) (q1.items ++ [x]).length (itC (q1.items ++ [x])) := by
    rw [itC_snoc, List.length_append]
    exact hs.setOther _ _ (hs.ne_blk hb (by decide))
  have hoA : Only (mt.B q1.id :: (mt.V q1.id).ownBlock.toList) wt (w5.setCell ⟨mt.B q1.id, 4, none⟩ (.slice (some ⟨g, off, none⟩) (q1.items.length + 1) cp)) := (ho.mono (fun y hy => .inl (List.mem_cons_of_mem _ hy))).setCell _ _ (.inl List.mem_cons_self)
  have h2 := ht.setItems (q' := { q1 with items := q1.items ++ [x] }) hg rfl (hb.setAt 4 _ rfl) hs' hoA (hat.imp (fun e => by rw [e]; rfl) (fun e y hy => by
    have : g = y := by simpa [Value.ownBlock] using hy
    omega))
  refine ⟨_, h2.setN n', ?_, fun y hy => ?_⟩
  · have h3 := hoT.trans' hoA (fun y hy => by
      rcases List.mem_cons.1 hy with e | hy
      · exact hown y (by rw [e]; exact own_B bs hq)
      · exact hown y (own_V bs hq hy))
    exact h3.setCell _ _ (.inl (own_bs _ _ _))
  · rcases own_putQ (q := q1) (q' := { q1 with items := q1.items ++ [x] }) rfl hq hy with hy | hy
    · exact hown y hy
    · have e : g = y := by simpa [Value.ownBlock] using hy
      rcases hat with h | h
      · exact hown y (own_V bs hq (by rw [h, e]; simp))
      · exact .inr (by have := hoT.size; omega)
/-- The round grew. -/
theorem round_fin {base bs : Nat} {S1 : PS} {m : DM} {n : Int} {id : Int} {w1 : World} (h1 : SchM w1 base bs S1 m n) (g off cp : Nat) (w2 : World) (hs : Seg w2 base 94 1 (.slice (some ⟨g, off, none⟩) (S1.round.length + 1) cp) (S1.round.length + 1) (rdC m S1.round ++ [.pointer (some ⟨m.B id, 0, none⟩)])) (ho : Only m.rv.ownBlock.toList w1 w2)
    (hat : m.rv.ownBlock = some g ∨ w1.heap.size ≤ g) : SchM (w2.setCell ⟨bs, 257, none⟩ (.slice (some ⟨g, off, none⟩) (S1.round.length + 1) cp)) base bs { S1 with round := S1.round ++ [id] } { m with rv := .slice (some ⟨g, off, none⟩) (S1.round.length + 1) cp } n ∧
    Only (bs :: m.rv.ownBlock.toList) w1 (w2.setCell ⟨bs, 257, none⟩ (.slice (some ⟨g, off, none⟩) (S1.round.length + 1) cp)) ∧ ∀ y ∈ ownM bs { S1 with round := S1.round ++ [id] } { m with rv := .slice (some ⟨g, off, none⟩) (S1.round.length + 1) cp }, y ∈ ownM bs S1 m ∨ w1.heap.size ≤ y := by
  refine ⟨h1.setRound ho ?_, (ho.mono (fun y hy => .inl (List.mem_cons_of_mem _ hy))).setCell _ _ (.inl List.mem_cons_self), fun y hy => ?_⟩
  · rw [rdC_snoc, List.length_append]
    exact hs
  · rcases own_round hy with hy | hy
    · exact .inl hy
    · have e : g = y := by simpa [Value.ownBlock] using hy
      rcases hat with h | h
      · exact .inl (own_rv _ _ _ (by rw [h, e]; simp))
      · exact .inr (by omega)
theorem dpush_more (bs base : Nat) (S : PS) (m : DM) (n : Int) (x : Int × Int) (q : PQ) (w : World) (h : SchM w base bs S m n) (ho : S.Ok) (hg : getQ q.id S.qs = some q) (hx1 : x.1 = q.id) (hx : 1 ≤ x.2 ∧ x.2 ≤ 65536) (htot : totQ S.qs ≤ 60000) (hn : 0 ≤ n ∧ n ≤ 60000) (hne : q.items ≠ []) :
    Calls Try.prog 19 #[.pointer (some ⟨bs, 0, none⟩), itV x] w fun e w' => e = .returned (.int .i64 0) ∧ DPost base bs S m w (pushP S q x) (n + 1) w' := by
  have hB := Below.chainAlloc (Below.refl _ w) (.cells #[.int .i64 x.1, .int .i64 x.2] 35)
  have h0 := h.chain hB
  have hbx := Blk.new w #[.int .i64 x.1, .int .i64 x.2] 35
  have HN := dat_any bs base S m n x.1 _ h0 ho
  have hgx : getQ x.1 S.qs = some q := by rw [hx1]; exact hg
  rw [hgx, show ptrQ m (some q) = .pointer (some ⟨m.B q.id, 0, none⟩) from rfl] at HN
  have hq := (getQ_mem hg).1
  have hbb := h0.q q hq
  have hok := ho.q q hq
  have hlen := len_le_tot hg
  have hne1 : m.B q.id ≠ w.heap.size := by have := (h.q q hq).lt; omega
  have hne2 : bs ≠ w.heap.size := by have := h.blt; omega
  have hbsb : bs ≠ m.B q.id := by
    obtain ⟨cs, hcs, _⟩ := h0.s
    exact hcs.ne_ty hbb (by decide)
  have hbase : base ≤ w.heap.size := by have := h.bs; have := h.blt; omega
  obtain ⟨i0, hi, hz0, hz1, hz2⟩ := info_parts infoItem
  have t1 : ¬ x.2 < 1 := by omega
  have t2 : ¬ 65536 < x.2 := by omega
  have t3 : decide ((65536 : Int) ≤ (q.items.length : Int)) = false := decide_eq_false (by omega)
  have hn0 : 0 < q.items.length := List.length_pos_iff.2 hne
  have t4 : ((q.items.length : Int) == 0) = false := beq_eq_false_iff_ne.2 (by omega)
  have t5 : wrap64 (n + 1) = n + 1 := IntWalk.wrap64_in _ (by omega)
  have hS : ({ S with qs := putQ { q with items := q.items ++ [x] } S.qs } : PS) = pushP S q x := by
    unfold pushP pushQ
    rw [if_neg hne, if_neg hne]
  have HF := Lib.hid (tail_fin h0 hg hS (Only.of_below hB) (fun y hy => .inl hy) (n + 1))
  have hsg := h0.i q hq
  have hcell := h0.cells.2.2.1
  have hfrz := h0.cells.2.2.2.1
  obtain ⟨av, cv, hv⟩ := hsg.form
  rw [hv] at hsg HF hbb
  unfold PQ.cells at hbb HF
  generalize m.B q.id = b at *
  obtain ⟨W, hW⟩ : ∃ W, w.alloc (.cells #[.int .i64 x.1, .int .i64 x.2] 35) = W := ⟨_, rfl⟩
  rw [hW] at hsg hbb hcell hfrz HF HN hbx hB
  have hWs : W.heap.size = w.heap.size + 1 := by rw [← hW, size_alloc]
  generalize hbxx : w.heap.size = bx at *
  have c4 : W.cell? ⟨b, 4, none⟩ = some (.slice av q.items.length cv) := hbb.facts.1 4
  have f4 := hbb.facts.2.1 4
  have d0 : W.cell? ⟨bx, 0, none⟩ = some (.int .i64 x.1) := hbx.facts.1 0
  have d1 : W.cell? ⟨bx, 1, none⟩ = some (.int .i64 x.2) := hbx.facts.1 1
  have d6 := hbx.lt
  have d7 := hbb.lt
  have hneb : some b ≠ (Value.slice av q.items.length cv).ownBlock := fun e => hsg.ne_blk hbb (by decide) b e.symm rfl
  have hnes : some bs ≠ (Value.slice av q.items.length cv).ownBlock := by
    obtain ⟨cs, hcs, _⟩ := h0.s
    rw [hW] at hcs
    exact fun e => hsg.ne_blk hcs (by decide) bs e.symm rfl
  have hsB : ∃ cs, Blk W bs cs 98 ∧ cs[258]? = some (.int .i64 n) := by
    obtain ⟨cs, hcs, hc⟩ := h0.s
    rw [hW] at hcs
    exact ⟨cs, hcs, hc.n⟩
  obtain ⟨cs, hcsB, hcn⟩ := hsB
  have d8 := hcsB.lt
  have hm1 : q.items.length + 1 ≤ maxLen := by simp only [maxLen]; omega
  have hm2 : (q.items.length + 1) * 16 ≤ 140737488355328 := by omega
  generalize q.items.length = k at *
  clear h h0 ho hg hx1 hx htot hn hgx hok hlen hq hS
  unfold itV
  go_enter Try.func19, Try.ntmps19
  go_wp2_with fail
  refine HN.mono ?_
  rintro e w1 ⟨rfl, rfl⟩
  clear hW hbxx hB
  have hbW : base ≤ W.heap.size := by omega
  clear hWs
  go_upto_region 13 with fail
  go_region_law (refine step_append_seg _ rfl _ _ 105 rfl base 35 i0 _ 2 16 Try.underlying105 hi hz0 hz1 hz2 rfl (by decide) (.slice av k cv) k (itC q.items) ?g1 ?g2 ⟨W.heap.size, 0, none⟩ 1 1 [.int .i64 x.1, .int .i64 x.2] ?g3 rfl ?g4 (by simp [Value.oneCell']) (by decide) hm1 hm2 ?g5 (W.heap.size + 1) ?g6 ?_; (case g1 => rfl); (case g2 => exact (hsg.alloc _).drew); (case g3 => rfl); (case g4 => exact cells_new _ _ _); (case g5 => simp; omega); (case g6 => exact size_alloc _ _); intro g off cap w2 hown hgrow hat; have hk := (Blk.drew (hbb.alloc _)).grown hgrow hneb; have g0 : w2.cell? ⟨b, 4, none⟩ = some (.slice av k cv) := hk.facts.1 4; have g1 : w2.frozen? ⟨b, 4, none⟩ = false := hk.facts.2.1 4; have hk2 := (Blk.drew (hcsB.alloc _)).grown hgrow hnes; have g2 : w2.cell? ⟨bs, 258, none⟩ = some (.int .i64 n) := (hk2.facts.1 258).trans hcn; have g3 : w2.frozen? ⟨bs, 258, none⟩ = false := hk2.facts.2.1 258; have hO := Only.grown (S := (Value.slice av k cv).ownBlock.toList) (Only.drew (Only.alloc (Only.refl _ W) _)) hgrow (fun x hx => .inl (by rw [hx]; simp)); clear hgrow)
  all_goals
    go_wp2_with fail
    go_ret
    exact ⟨rfl, HF.out g off cap w2 hown hk hO (hat.imp id (fun e => by omega))⟩
theorem dpush_first (bs base : Nat) (S : PS) (m : DM) (n : Int) (x : Int × Int) (q : PQ) (w : World) (h : SchM w base bs S m n) (ho : S.Ok) (hg : getQ q.id S.qs = some q) (hx1 : x.1 = q.id) (hx : 1 ≤ x.2 ∧ x.2 ≤ 65536) (htot : totQ S.qs ≤ 60000) (hn : 0 ≤ n ∧ n ≤ 60000) (hne : q.items = []) :
    Calls Try.prog 19 #[.pointer (some ⟨bs, 0, none⟩), itV x] w fun e w' => e = .returned (.int .i64 0) ∧ DPost base bs S m w (pushP S q x) (n + 1) w' := by
  have hB := Below.chainAlloc (Below.refl _ w) (.cells #[.int .i64 x.1, .int .i64 x.2] 35)
  have h0 := h.chain hB
  have hbx := Blk.new w #[.int .i64 x.1, .int .i64 x.2] 35
  have HN := dat_any bs base S m n x.1 _ h0 ho
  have hgx : getQ x.1 S.qs = some q := by rw [hx1]; exact hg
  rw [hgx, show ptrQ m (some q) = .pointer (some ⟨m.B q.id, 0, none⟩) from rfl] at HN
  have hq := (getQ_mem hg).1
  have hbb := h0.q q hq
  have hok := ho.q q hq
  have hlen := len_le_tot hg
  have hne1 : m.B q.id ≠ w.heap.size := by have := (h.q q hq).lt; omega
  have hne2 : bs ≠ w.heap.size := by have := h.blt; omega
  have hbsb : bs ≠ m.B q.id := by
    obtain ⟨cs, hcs, _⟩ := h0.s
    exact hcs.ne_ty hbb (by decide)
  have hbase : base ≤ w.heap.size := by have := h.bs; have := h.blt; omega
  obtain ⟨i0, hi, hz0, hz1, hz2⟩ := info_parts infoItem
  have t1 : ¬ x.2 < 1 := by omega
  have t2 : ¬ 65536 < x.2 := by omega
  have hq0 : q.items.length = 0 := by rw [hne]; rfl
  have t3 : decide ((65536 : Int) ≤ (q.items.length : Int)) = false := decide_eq_false (by omega)
  have t5 : wrap64 (n + 1) = n + 1 := IntWalk.wrap64_in _ (by omega)
  obtain ⟨p0, hp, hp0, hp1, hp2⟩ := info_parts infoPtr
  obtain ⟨W, hW⟩ : ∃ W, w.alloc (.cells #[.int .i64 x.1, .int .i64 x.2] 35) = W := ⟨_, rfl⟩
  rw [hW] at h0 hbb HN hbx hB
  have hWs : W.heap.size = w.heap.size + 1 := by rw [← hW, size_alloc]
  have h1 : SchM ((W.setCell ⟨m.B q.id, 2, none⟩ (.int .i64 0)).setCell ⟨m.B q.id, 3, none⟩ (.bool false)) base bs { S with qs := putQ { q with deficit := 0, served := false } S.qs } m n :=
    h0.setQ (q' := { q with deficit := 0, served := false }) hg rfl rfl ((hbb.setAt 2 _ rfl).setAt 3 _ rfl) (((Only.refl _ _).setCell _ _ (.inl (by simp))).setCell _ _ (.inl (by simp)))
  have hk1 : Blk ((W.setCell ⟨m.B q.id, 2, none⟩ (.int .i64 0)).setCell ⟨m.B q.id, 3, none⟩ (.bool false)) (m.B q.id) #[.int .i64 q.id, .int .i64 q.weight, .int .i64 0, .bool false, m.V q.id] 110 := (hbb.setAt 2 _ rfl).setAt 3 _ rfl
  have hx1' : Blk ((W.setCell ⟨m.B q.id, 2, none⟩ (.int .i64 0)).setCell ⟨m.B q.id, 3, none⟩ (.bool false)) w.heap.size #[.int .i64 x.1, .int .i64 x.2] 35 := (hbx.setOther _ _ (fun e => hne1 e.symm)).setOther _ _ (fun e => hne1 e.symm)
  have hO1 : Only (ownM bs S m) w ((W.setCell ⟨m.B q.id, 2, none⟩ (.int .i64 0)).setCell ⟨m.B q.id, 3, none⟩ (.bool false)) := ((Only.of_below hB).setCell _ _ (.inl (own_B bs hq))).setCell _ _ (.inl (own_B bs hq))
  have hw1 : ∀ y ∈ ownM bs { S with qs := putQ { q with deficit := 0, served := false } S.qs } m, y ∈ ownM bs S m := fun y hy => by
    have e := setV_self m q.id
    rw [← e] at hy
    rcases own_putQ (q := q) (q' := { q with deficit := 0, served := false }) rfl hq hy with hy | hy
    · exact hy
    · exact own_V bs hq (by rw [hy]; simp)
  have hg1 : getQ q.id (putQ { q with deficit := 0, served := false } S.qs) = some { q with deficit := 0, served := false } := by
    rw [getQ_putQ (q := { q with deficit := 0, served := false }) (q0 := q) hg, if_pos rfl]
  have hS : ({ S with qs := putQ { q with deficit := 0, served := false, items := q.items ++ [x] } (putQ { q with deficit := 0, served := false } S.qs), round := S.round ++ [q.id] } : PS) = pushP S q x := by
    unfold pushP pushQ
    rw [if_pos hne, if_pos hne, putQ_putQ (q := { q with deficit := 0, served := false }) (q' := { q with deficit := 0, served := false, items := q.items ++ [x] }) rfl, hne]
    rfl
  have k2 : W.cell? ⟨m.B q.id, 2, none⟩ = some (.int .i64 q.deficit) := hbb.facts.1 2
  have k3 : W.cell? ⟨m.B q.id, 3, none⟩ = some (.bool q.served) := hbb.facts.1 3
  have k4 : W.cell? ⟨m.B q.id, 4, none⟩ = some (m.V q.id) := hbb.facts.1 4
  have kf := hbb.facts.2.1
  have kx0 : W.cell? ⟨w.heap.size, 0, none⟩ = some (.int .i64 x.1) := hbx.facts.1 0
  have kx1 : W.cell? ⟨w.heap.size, 1, none⟩ = some (.int .i64 x.2) := hbx.facts.1 1
  obtain ⟨W1, hW1⟩ : ∃ W1, (W.setCell ⟨m.B q.id, 2, none⟩ (.int .i64 0)).setCell ⟨m.B q.id, 3, none⟩ (.bool false) = W1 := ⟨_, rfl⟩
  rw [hW1] at h1 hk1 hx1' hO1
  have hW1s : w.heap.size + 1 = W1.heap.size := by rw [← hW1]; simp [World.setCell, hWs]
  obtain ⟨ar, cr, hvr⟩ := h1.r.form
  have hrl := ho.rlen
  have e0 := h1.cells.2.1
  have e1 := h1.cells.2.2.2.1 257
  have hsg := h1.i _ (getQ_mem hg1).1
  obtain ⟨av, cv, hv⟩ := hsg.form
  have hv' : m.V q.id = .slice av 0 cv := by rw [← hq0]; exact hv
  have HRF := Lib.hid (fun g off cp w2 => round_fin (id := q.id) h1 g off cp w2)
  have HR1 := Lib.hid h1
  have hseg : Seg W1 base 94 1 (.slice ar S.round.length cr) S.round.length (rdC m S.round) := hvr ▸ h1.r
  have hnbs : some bs ≠ m.rv.ownBlock := by
    obtain ⟨cs, hcs, _⟩ := h1.s
    exact fun e => h1.r.ne_blk hcs (by decide) bs e.symm rfl
  have hnbx : w.heap.size ∉ bs :: m.rv.ownBlock.toList := by
    intro hm
    rcases List.mem_cons.1 hm with e | hm
    · exact hne2 e.symm
    · exact h1.r.ne_blk hx1' (by decide) _ (by simpa using hm) rfl
  have HNX := Lib.hid hnbx
  have HNS := Lib.hid (hvr ▸ hnbs)
  have HVR := Lib.hid hvr
  have hm1 : S.round.length + 1 ≤ maxLen := by simp only [maxLen]; omega
  have hm2 : (S.round.length + 1) * 8 ≤ 140737488355328 := by omega
  have hbW : base ≤ W1.heap.size + 1 := by omega
  obtain ⟨cs, hcsB, hcc⟩ := h1.s
  have hcn := hcc.n
  have hcr := hcc.r
  rw [show (m.rv) = .slice ar S.round.length cr from hvr] at hcr
  have HCR := Lib.hid hcr
  clear hcr
  have d8 := hcsB.lt
  have d7 := hk1.lt
  have d6 := hx1'.lt
  have HC := Lib.hid hcsB
  have HK1 := Lib.hid hk1
  have HX1 := Lib.hid hx1'
  have HO1 := Lib.hid hO1
  have HW1 := Lib.hid hw1
  have HG1 := Lib.hid hg1
  have HSS := Lib.hid hS
  have HV := Lib.hid hv'
  have HCN := Lib.hid hcn
  have HSG := Lib.hid hsg
  have HNB := Lib.hid (And.intro hbsb (And.intro hne1 hne2))
  have HBS : Hid (base ≤ w.heap.size ∧ w.heap.size < W1.heap.size) := Lib.hid ⟨hbase, by omega⟩
  rw [hvr] at e0
  rw [hv'] at k4
  clear h h0 ho hg hx1 hx htot hn hgx hok hlen hq hS h1 hnbs hnbx hvr hk1 hx1' hO1 hw1 hg1 hcsB hcn hcc hsg hrl hbase hv hB hbx hbb hWs
  rw [hq0] at t3
  generalize hbe : m.B q.id = b at *
  have HBE := Lib.hid hbe
  clear hbe
  generalize hbxx : w.heap.size = bx at *
  unfold itV
  go_enter Try.func19, Try.ntmps19
  go_wp2_with fail
  refine HN.mono ?_
  rintro e w1 ⟨rfl, rfl⟩
  clear hW hbxx
  go_upto_region 12 with fail
  go_wp2_with (at_builtin; refine wpList_append_seg _ rfl (.tmp 48) (.tmp 50) 96 rfl base 94 p0 _ 1 8 Try.underlying96 hp hp0 hp1 hp2 rfl (by decide) (.slice ar S.round.length cr) S.round.length (rdC m S.round) rfl (hseg.alloc _) ⟨W1.heap.size, 0, none⟩ 1 1 [.pointer (some ⟨b, 0, none⟩)] rfl rfl (cells_new _ _ _) (by simp [Value.oneCell']) (by decide) hm1 hm2 (by rw [size_alloc]; exact hbW) (W1.heap.size + 1) (size_alloc _ _) ?_; intro g off cap w2 hown hgrow hat; have hk2 := (HC.out.alloc _).grown hgrow HNS.out; have g2 : w2.cell? ⟨bs, 257, none⟩ = some (.slice ar S.round.length cr) := (hk2.facts.1 257).trans HCR.out; have g3 : w2.frozen? ⟨bs, 257, none⟩ = false := hk2.facts.2.1 257)
  have hO2 : Only m.rv.ownBlock.toList W1 w2 := HVR.out ▸ Only.grown (S := (Value.slice ar S.round.length cr).ownBlock.toList) (Only.alloc (Only.refl _ W1) _) hgrow (fun x hx => .inl (by rw [hx]; simp))
  have hat2 : m.rv.ownBlock = some g ∨ W1.heap.size ≤ g := HVR.out ▸ hat.imp id (fun e => by omega)
  obtain ⟨hs3, ho3, hw3⟩ := HRF.out g off cap w2 hown hO2 hat2
  have hx3 := HX1.out.only ho3 HNX.out
  have HS3 := Lib.hid hs3
  have HO3 := Lib.hid ho3
  have HW3 := Lib.hid hw3
  have HX3 := Lib.hid hx3
  clear hO2 hat2 hs3 ho3 hw3 hx3 hgrow hat hown HRF HC HX1 hk2 e0 e1 hseg
  have hhead : Only (ownM bs S m) w (w2.setCell ⟨bs, 257, none⟩ (.slice (some ⟨g, off, none⟩) (S.round.length + 1) cap)) := HO1.out.trans' HO3.out (fun y hy => by
    rcases List.mem_cons.1 hy with e | hy
    · exact .inl (by rw [e]; exact own_bs _ _ _)
    · exact .inl (own_rv _ _ _ hy))
  have hown3 := fun y hy => (HW3.out y hy).elim (fun h => Or.inl (HW1.out y h)) (fun h => Or.inr (Nat.le_trans HO1.out.size h))
  have hf := tail_fin (T := pushP S q x) (x := x) (q1 := { q with deficit := 0, served := false }) HS3.out HG1.out HSS.out hhead hown3 (n + 1)
  dsimp only at hf
  rw [HBE.out, HV.out] at hf
  have HF := Lib.hid hf
  have hbb := HS3.out.q _ (getQ_mem HG1.out).1
  have hsg := HS3.out.i _ (getQ_mem HG1.out).1
  unfold PQ.cells at hbb
  dsimp only at hbb hsg
  rw [HBE.out, HV.out] at hbb
  rw [HV.out, hq0] at hsg
  obtain ⟨cs3, hcs3, hcc3⟩ := HS3.out.s
  have hc258 := hcc3.n
  have HX3' := HX3
  have hneb : some b ≠ (Value.slice av 0 cv).ownBlock := fun e => hsg.ne_blk hbb (by decide) b e.symm rfl
  have hnes : some bs ≠ (Value.slice av 0 cv).ownBlock := fun e => hsg.ne_blk hcs3 (by decide) bs e.symm rfl
  have hbW3 : base ≤ (w2.setCell ⟨bs, 257, none⟩ (.slice (some ⟨g, off, none⟩) (S.round.length + 1) cap)).heap.size := by
    have := HS3.out.bs
    have := HS3.out.blt
    omega
  clear hf hhead hown3 hcc3 hp hp0 hp1 hp2 g2 g3 HS3 HO3 HW3 HX3 hm1 hm2 hbW d6 d7 d8 hW1s hW1
  generalize w2.setCell ⟨bs, 257, none⟩ (.slice (some ⟨g, off, none⟩) (S.round.length + 1) cap) = W3 at *
  have hbx := HX3'.out
  have c4 : W3.cell? ⟨b, 4, none⟩ = some (.slice av 0 cv) := hbb.facts.1 4
  have f4 := hbb.facts.2.1 4
  have d0 : W3.cell? ⟨bx, 0, none⟩ = some (.int .i64 x.1) := hbx.facts.1 0
  have d1 : W3.cell? ⟨bx, 1, none⟩ = some (.int .i64 x.2) := hbx.facts.1 1
  have d6 := hbx.lt
  have d7 := hbb.lt
  have d8 := hcs3.lt
  have hcell : W3.cell? ⟨bs, 258, none⟩ = some (.int .i64 n) := (hcs3.facts.1 258).trans hc258
  have hit0 : itC q.items = [] := by rw [hne]; rfl
  rw [hit0] at hsg
  have hbsb := HNB.out.1
  have hm1 : 0 + 1 ≤ maxLen := by simp only [maxLen]; omega
  have hm2 : (0 + 1) * 16 ≤ 140737488355328 := by omega
  clear HX3'
  go_region_law (refine step_append_seg _ rfl _ _ 105 rfl base 35 i0 _ 2 16 Try.underlying105 hi hz0 hz1 hz2 rfl (by decide) (.slice av 0 cv) 0 [] ?g1 ?g2 ⟨W3.heap.size, 0, none⟩ 1 1 [.int .i64 x.1, .int .i64 x.2] ?g3 rfl ?g4 (by simp [Value.oneCell']) (by decide) hm1 hm2 ?g5 (W3.heap.size + 1) ?g6 ?_; (case g1 => rfl); (case g2 => exact (hsg.alloc _).drew); (case g3 => rfl); (case g4 => exact cells_new _ _ _); (case g5 => simp; omega); (case g6 => exact size_alloc _ _); intro g off cap w2 hown hgrow hat; have hk := (Blk.drew (hbb.alloc _)).grown hgrow hneb; have g0 : w2.cell? ⟨b, 4, none⟩ = some (.slice av 0 cv) := hk.facts.1 4; have g1 : w2.frozen? ⟨b, 4, none⟩ = false := hk.facts.2.1 4; have hk2 := (Blk.drew (hcs3.alloc _)).grown hgrow hnes; have g2 : w2.cell? ⟨bs, 258, none⟩ = some (.int .i64 n) := (hk2.facts.1 258).trans hc258; have g3 : w2.frozen? ⟨bs, 258, none⟩ = false := hk2.facts.2.1 258; have hO := Only.grown (S := (Value.slice av 0 cv).ownBlock.toList) (Only.drew (Only.alloc (Only.refl _ W3) _)) hgrow (fun x hx => .inl (by rw [hx]; simp)); clear hgrow)
  all_goals
    go_wp2_with fail
    go_ret
    refine ⟨rfl, ?_⟩
    have h9 := HF.out g off cap w2 (by rw [hq0, hit0]; exact hown) hk hO (hat.imp id (fun e => by omega))
    rw [hq0] at h9
    exact h9
end Go.Proofs.Ytgfbhclkpephnaa
