/-
  The table: a part's drop (chapter 18).
-/
import Derived.Test.YtnommofekjiiaaaTa17
namespace Go.Proofs.Ytnommofekjiiaaa
open Go Go.RowKit Go.MuLone
set_option linter.unusedVariables false
set_option linter.unusedSimpArgs false
set_option maxRecDepth 100000
set_option maxHeartbeats 2000000
abbrev KV := (Int × Int) × Value
def hasS (z : Int) (q : KV) : Bool := decide (q.1.1 = z)
theorem delM_len {k : Int × Int} : ∀ {l : List KV}, (l.map Prod.fst).Nodup → (∃ q ∈ l, q.1 = k) → (delM k l).length + 1 = l.length
  | [], _, h => by obtain ⟨q, hq, _⟩ := h; cases hq
  | a :: l, hn, h => by
    rw [List.map_cons, List.nodup_cons] at hn
    by_cases ha : a.1 = k
    · have : delM k (a :: l) = l := by
        unfold delM
        rw [List.filter_cons_of_neg (by simp [ha])]
        exact delM_self fun q hq e => hn.1 (by rw [ha, ← e]; exact List.mem_map.2 ⟨q, hq, rfl⟩)
      rw [this, List.length_cons]
    · obtain ⟨q, hq, hk⟩ := h
      rcases List.mem_cons.1 hq with rfl | hq
      · exact absurd hk ha
      · have ih := delM_len hn.2 ⟨q, hq, hk⟩
        unfold delM at ih ⊢
        rw [List.filter_cons_of_pos (by simp [ha]), List.length_cons, List.length_cons, ih]
/-- Where the loop stands: what the map reads as, what is still to come, how many were deleted. -/
structure DrI (z : Int) (M l rest : List KV) (n : Nat) : Prop where
  a : ∀ q ∈ rest, q ∈ l
  b : ∀ q ∈ l, q ∉ rest → hasS z q = false
  c : l.filter (fun q => !hasS z q) = M.filter (fun q => !hasS z q)
  d : n + (l.filter (hasS z)).length = (M.filter (hasS z)).length
theorem DrI.start (z : Int) (M : List KV) : DrI z M M M 0 := ⟨fun _ h => h, fun q h h' => absurd h h', rfl, by simp⟩
theorem DrI.skip {z : Int} {M l rest : List KV} {n : Nat} (h : DrI z M l rest n) {p : KV} (hp : p ∈ rest) (hz : ¬ p.1.1 = z) : DrI z M l (delM p.1 rest) n := by
  refine ⟨fun q hq => h.a q (List.mem_filter.1 hq).1, fun q hq hn => ?_, h.c, h.d⟩
  by_cases hr : q ∈ rest
  · have : q.1 = p.1 := by
      by_cases e : q.1 = p.1
      · exact e
      · exact absurd (List.mem_filter.2 ⟨hr, by simp [e]⟩) hn
    unfold hasS
    rw [this]
    exact decide_eq_false hz
  · exact h.b q hq hr
theorem DrI.del {z : Int} {M l rest : List KV} {n : Nat} (h : DrI z M l rest n) {p : KV} (hp : p ∈ l) (hz : p.1.1 = z) (hn : (l.map Prod.fst).Nodup) : DrI z M (delM p.1 l) (delM p.1 (delM p.1 rest)) (n + 1) := by
  refine ⟨fun q hq => ?_, fun q hq hnr => ?_, ?_, ?_⟩
  · obtain ⟨hq1, hq2⟩ := List.mem_filter.1 (List.mem_filter.1 hq).1
    exact List.mem_filter.2 ⟨h.a q hq1, hq2⟩
  · obtain ⟨hq1, hq2⟩ := List.mem_filter.1 hq
    exact h.b q hq1 fun hr => hnr (List.mem_filter.2 ⟨List.mem_filter.2 ⟨hr, hq2⟩, hq2⟩)
  · rw [← h.c]
    unfold delM
    rw [List.filter_filter]
    refine List.filter_congr fun q _ => ?_
    by_cases e : q.1 = p.1
    · have : hasS z q = true := by unfold hasS; rw [e]; exact decide_eq_true hz
      simp [this]
    · simp [e]
  · have e1 : (delM p.1 l).filter (hasS z) = delM p.1 (l.filter (hasS z)) := by
      unfold delM
      rw [List.filter_filter, List.filter_filter]
      refine List.filter_congr fun q _ => ?_
      rw [Bool.and_comm]
    have e2 := delM_len (k := p.1) (l := l.filter (hasS z)) (List.Sublist.nodup (List.filter_sublist.map _) hn) ⟨p, List.mem_filter.2 ⟨hp, decide_eq_true hz⟩, rfl⟩
    rw [e1]
    have := h.d
    omega
theorem DrI.fin {z : Int} {M l : List KV} {n : Nat} (h : DrI z M l [] n) : l = M.filter (fun q => !hasS z q) ∧ n = (M.filter (hasS z)).length := by
  have hall : ∀ q ∈ l, hasS z q = false := fun q hq => h.b q hq (by simp)
  have e1 : l.filter (fun q => !hasS z q) = l := List.filter_eq_self.2 fun q hq => by rw [hall q hq]; rfl
  have e2 : l.filter (hasS z) = [] := List.filter_eq_nil_iff.2 fun q hq => by rw [hall q hq]; simp
  refine ⟨by rw [← h.c, e1], ?_⟩
  have := h.d
  rw [e2] at this
  simpa using this
def dropP (P j : Nat) (z : Int) (es : List TE) : List TE := es.filter fun e => !(decide (partOf P e.k = j) && decide (e.k.1 = z))
theorem inP_dropP (P j : Nat) (z : Int) (es : List TE) : inP P (dropP P j z es) j = (inP P es j).filter (fun q => !hasS z q) := by
  unfold inP dropP
  rw [List.filter_map, List.filter_filter, List.filter_filter]
  congr 1
  refine List.filter_congr fun e _ => ?_
  by_cases h1 : partOf P e.k = j <;> by_cases h2 : e.k.1 = z <;> simp [TE.mp, hasS, h1, h2]
theorem inP_dropP' (P j : Nat) (z : Int) (es : List TE) (i : Nat) (hi : i ≠ j) : inP P (dropP P j z es) i = inP P es i := by
  unfold inP dropP
  rw [List.filter_filter]
  congr 1
  refine List.filter_congr fun e _ => ?_
  by_cases h1 : partOf P e.k = i
  · have : ¬ partOf P e.k = j := fun h => hi (by rw [← h1, h])
    simp [h1, hi]
  · simp [h1]
theorem TabM.dropEnt {base : Nat} {W w' : World} {bt : Nat} {s : TS} {hd : Option Nat} (h : TabM base W bt s hd) {j : Nat} {p : Nat × Nat} (hj : s.ps[j]? = some p) (z : Int)
    (ho : Only [p.2] W w') (hp : MapW encK w' p.2 ((inP s.ps.length s.es j).filter (fun q => !hasS z q))) : TabM base w' bt { s with es := dropP s.ps.length j z s.es } hd := by
  refine h.setMap hj (dropP s.ps.length j z s.es) ho (by rw [inP_dropP]; exact hp) (fun i hi => inP_dropP' _ _ _ _ _ hi) (fun f hf => h.pe f (List.mem_filter.1 hf).1) ?_
  exact List.Sublist.nodup ((List.filter_sublist).map _) h.en
theorem drop_part (base bt : Nat) (s : TS) (j : Nat) (p : Nat × Nat) (z : Int) (w : World) (h : TabM base w bt s none) (hp : s.ps[j]? = some p) (hlen : (inP s.ps.length s.es j).length ≤ 1000000) :
    Calls Try.prog 27 #[ptr p.1, .int .i64 z] w fun r w' => r = .returned (.int .i64 (((inP s.ps.length s.es j).filter (hasS z)).length : Nat)) ∧ TabM base w' bt { s with es := dropP s.ps.length j z s.es } none ∧ Turn base KT w w' := by
  obtain ⟨hpc, hplo⟩ := h.pc _ _ hp
  have c0 : w.cell? ⟨p.1, 0, none⟩ = some (.int .i32 0) := hpc.facts.1 0
  have f0 := hpc.facts.2.1 0
  have HP := Lib.hid hp
  have hT1 := h.lock hp
  have hN1 : Turn base KT w (w.setCell ⟨p.1, 0, none⟩ (.int .i32 1)) := Turn.one ((Only.refl _ _).setCell _ _ (.inl (by simp))) hplo hpc.kind (by simp)
  have m2 : (w.setCell ⟨p.1, 0, none⟩ (.int .i32 1)).cell? ⟨p.1, 2, none⟩ = some (.map (some p.2)) := (hT1.pc _ _ hp).1.facts.1 2
  have HT1 := Lib.hid hT1
  have HN1 := Lib.hid hN1
  generalize hM : inP s.ps.length s.es j = M at hlen ⊢
  have HM := Lib.hid hM
  have hmap := (hT1.pm _ _ hp).1
  rw [hM] at hmap
  obtain ⟨W, hrange, hrng, hbW⟩ := hmap.range und63
  have hsz : (w.setCell ⟨p.1, 0, none⟩ (.int .i32 1)).heap.size = w.heap.size := by simp [World.setCell]
  rw [hsz] at hrange hrng
  have HSZ := Lib.hid hsz
  have HST : Hid (DrI z M M M 0 ∧ RngW encK W w.heap.size p.2 M M ∧ Only [p.2] (w.setCell ⟨p.1, 0, none⟩ (.int .i32 1)) W) := Lib.hid ⟨DrI.start z M, hrng, Only.of_below hbW⟩
  have HLEN := Lib.hid hlen
  clear hsz h hp hpc hplo hT1 hN1 hM hmap hrng hbW hlen
  go_enter_defers Try.func27, Try.ntmps27
  go_wp2_with (go_at_call 22; refine (lock_free muLib ⟨p.1, 0, none⟩ _ c0 f0).mono ?_; rintro r w2 ⟨rfl, rfl⟩)
  generalize w.setCell ⟨p.1, 0, none⟩ (.int .i32 1) = w1 at *
  have hnl : ∀ (n : Nat), n ≤ M.length → IntKind.i64.wrap ((n : Int) + 1) = ((n + 1 : Nat) : Int) := fun n hn => by have := HLEN.out; rw [IntKind.wrap_i64]; omega
  have HNL := Lib.hid hnl
  obtain ⟨r, hr⟩ : ∃ r, w.heap.size = r := ⟨_, rfl⟩
  rw [hr] at hrange HST HSZ
  have HRR : Hid (w1.heap.size = r) := HSZ
  clear hnl
  rw [hr]
  clear hr
  go_loopg [5] M.length (fun gk v wr => ∃ (l rest : List KV) (n : Nat), rest.length ≤ gk ∧ v = .int .i64 (n : Int) ∧ n ≤ M.length ∧ Hid (DrI z M l rest n ∧ RngW encK wr r p.2 l rest ∧ Only [p.2] w1 wr))
  case atStart => exact ⟨_, _, 0, Nat.le_refl _, rfl, Nat.zero_le _, HST⟩
  case round =>
    clear HST hrange m2 c0 f0
    obtain ⟨l, rest, n, hrl, rfl, hnM, HREL⟩ := hrel
    rcases HREL.out.2.1.next keyLaw with ⟨h0, hrun⟩ | ⟨q, hq, w2, hrun, hent, hrng2, ho, hpl⟩
    · subst h0
      obtain ⟨rfl, rfl⟩ := HREL.out.1.fin
      have HT9 : Hid (TabM base wr bt { s with es := dropP s.ps.length j z s.es } (some j)) := Lib.hid (HT1.out.dropEnt HP.out z HREL.out.2.2 (by rw [HM.out]; exact HREL.out.2.1.map))
      have HN9 : Hid (Turn base KT w wr) := Lib.hid (HN1.out.trans (Turn.one HREL.out.2.2 (HT1.out.pm _ _ HP.out).2 (HT1.out.pm _ _ HP.out).1.kind (by simp)))
      have hpc3 := (HT9.out.pc _ _ HP.out).1
      have HC3 : Hid (wr.cell? ⟨p.1, 0, none⟩ = some (.int .i32 1) ∧ wr.frozen? ⟨p.1, 0, none⟩ = false) := Lib.hid ⟨by have := hpc3.facts.1 0; simpa [partC, lockOf] using this, hpc3.facts.2.1 0⟩
      clear HREL hpc3 hrl hnM
      go_wp2_with fail
      refine leaves_cons (f := 23) (args := #[.pointer (some ⟨p.1, 0, none⟩)]) (by simp) (by simp [go_sem]) ?_
      refine (unlock_deferred muLib ⟨p.1, 0, none⟩ .returning _ HC3.out.1 HC3.out.2).mono ?_
      rintro r u' w4 ⟨rfl, rfl, rfl⟩
      exact ⟨_, results_tmp rfl _ _ _, rfl, HT9.out.unlock HP.out, HN9.out.trans (Turn.one (K := KT) ((Only.refl _ _).setCell ⟨p.1, 0, none⟩ (.int .i32 0) (.inl (by simp))) (HT9.out.pc _ _ HP.out).2 (HT9.out.pc _ _ HP.out).1.kind (by simp))⟩
    · have hlt : (delM q.1 rest).length < rest.length := by
        unfold delM
        exact List.length_filter_lt_length_iff_exists.2 ⟨q, hq, by simp⟩
      have HLT := Lib.hid hlt
      have HO2 : Hid (Only [p.2] w1 w2) := Lib.hid (HREL.out.2.2.trans' ho (fun y hy => .inr (by rw [List.mem_singleton.1 hy, HRR.out]; exact Nat.le_refl _)))
      have HR2 := Lib.hid hrng2
      have HQ := Lib.hid (And.intro hq hpl)
      have HI := Lib.hid HREL.out.1
      have hpb : Blk w2 p.1 (partC (lockOf (some j) j) p.2) 65 := (HT1.out.pc _ _ HP.out).1.only HO2.out (fun hm => by
        have h1 := (HT1.out.pc _ _ HP.out).1.kind
        rw [List.mem_singleton.1 hm, (HT1.out.pm _ _ HP.out).1.kind] at h1
        cases h1)
      have HPB := Lib.hid hpb
      have m2 : w2.cell? ⟨p.1, 2, none⟩ = some (.map (some p.2)) := hpb.facts.1 2
      have hp1 := hpb.lt
      have HNW := HNL.out n hnM
      obtain ⟨⟨st, bl⟩, qv⟩ := q
      clear hq hpl hrng2 ho hlt HREL hpb
      unfold encK at hrun hent
      dsimp only at hrun hent
      by_cases hz : st = z
      · subst hz
        have hn2 : n + 1 ≤ M.length := by
          have h1 := HI.out.d
          have h2 := List.length_filter_le (hasS st) M
          have h3 : 0 < (l.filter (hasS st)).length := List.length_pos_of_mem (List.mem_filter.2 ⟨HQ.out.2, decide_eq_true rfl⟩)
          omega
        have HN2 := Lib.hid hn2
        go_wp2_with fail
        have HRD : Hid (RngW encK (w2.alloc (.cells #[.int .i64 st, .int .u32 bl] 35)) r p.2 l (delM (st, bl) rest)) := Lib.hid (HR2.out.chain (Below.chainAlloc (Below.refl _ _) _))
        have HOD : Hid (Only [p.2] w1 (w2.alloc (.cells #[.int .i64 st, .int .u32 bl] 35))) := Lib.hid (HO2.out.alloc _)
        have md : (w2.alloc (.cells #[.int .i64 st, .int .u32 bl] 35)).cell? ⟨p.1, 2, none⟩ = some (.map (some p.2)) := (HPB.out.alloc _).facts.1 2
        have kd0 : (w2.alloc (.cells #[.int .i64 st, .int .u32 bl] 35)).cell? ⟨w2.heap.size, 0, none⟩ = some (.int .i64 st) := (Blk.new w2 _ _).facts.1 0
        have kd1 : (w2.alloc (.cells #[.int .i64 st, .int .u32 bl] 35)).cell? ⟨w2.heap.size, 1, none⟩ = some (.int .u32 bl) := (Blk.new w2 _ _).facts.1 1
        generalize w2.alloc (.cells #[.int .i64 st, .int .u32 bl] 35) = wd at *
        have hrd : RngW encK wd.drew r p.2 l (delM (st, bl) rest) := HRD.out
        obtain ⟨w4, hdel, hrng4, ho4⟩ := hrd.del keyLaw und63 (st, bl)
        have HR4 := Lib.hid hrng4
        have HO4 : Hid (Only [p.2] w1 w4) := Lib.hid (HOD.out.trans ((Only.refl _ _).drew.trans ho4))
        have HI4 := Lib.hid (HI.out.del (p := ((st, bl), qv)) HQ.out.2 rfl HRD.out.map.nodup)
        unfold encK at hdel
        dsimp only at hdel
        clear hrd hrng4 ho4
        go_still_tail 5, (by kernel_rfl)
        change wpList _ _ _ _ _ wd.drew
        go_wp2_with fail
        go_roundg (delM (st, bl) (delM (st, bl) rest)).length
        case measure => have := HLT.out; have h9 : (delM (st, bl) (delM (st, bl) rest)).length ≤ (delM (st, bl) rest).length := List.length_filter_le _ _; omega
        case rel => exact ⟨_, _, n + 1, Nat.le_refl _, by (try rw [HNW]); rfl, HN2.out, Lib.hid ⟨HI4.out, HR4.out, HO4.out⟩⟩
      · have hzb : (st == z) = false := beq_eq_false_iff_ne.2 hz
        have HZ := Lib.hid hz
        clear hz
        go_wp2_with fail
        go_roundg (delM (st, bl) rest).length
        case measure => have := HLT.out; omega
        case rel => exact ⟨l, delM (st, bl) rest, n, Nat.le_refl _, rfl, hnM, Lib.hid ⟨HI.out.skip HQ.out.1 HZ.out, HR2.out.chain (Below.chainAlloc (Below.refl _ _) _), HO2.out.alloc _⟩⟩
end Go.Proofs.Ytnommofekjiiaaa
