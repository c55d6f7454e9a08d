/-
  The table: find, Get, Take (chapter 18).
-/
import Derived.Test.YtnommofekjiiaaaTa14
import Derived.StillTailTactics
namespace Go.Proofs.Ytnommofekjiiaaa
open Go Go.RowKit Go.MuLone
set_option linter.unusedVariables false
set_option linter.unusedSimpArgs false
set_option maxRecDepth 100000
set_option maxHeartbeats 2000000
def dropK (k : Int × Int) (es : List TE) : List TE := es.filter fun e => !decide (e.k = k)
theorem inP_dropK (P : Nat) (k : Int × Int) (es : List TE) : inP P (dropK k es) (partOf P k) = delM k (inP P es (partOf P k)) := by
  unfold inP dropK delM
  rw [List.filter_map, List.filter_filter, List.filter_filter]
  congr 1
  refine List.filter_congr fun e _ => ?_
  by_cases he : e.k = k <;> simp [TE.mp, he]
theorem inP_dropK' (P : Nat) (k : Int × Int) (es : List TE) (i : Nat) (hi : i ≠ partOf P k) : inP P (dropK k es) i = inP P es i := by
  unfold inP dropK
  rw [List.filter_filter]
  congr 1
  refine List.filter_congr fun e _ => ?_
  by_cases he : partOf P e.k = i
  · have : ¬ e.k = k := fun h => hi (by rw [← he, h])
    simp [he, this]
  · simp [he]
theorem TabM.delEnt {base : Nat} {W w' : World} {bt : Nat} {s : TS} {hd : Option Nat} (h : TabM base W bt s hd) {k : Int × Int} {p : Nat × Nat} (hj : s.ps[partOf s.ps.length k]? = some p)
    (ho : Only [p.2] W w') (hp : MapW encK w' p.2 (delM k (inP s.ps.length s.es (partOf s.ps.length k)))) : TabM base w' bt { s with es := dropK k s.es } hd := by
  refine h.setMap hj (dropK k s.es) ho (by rw [inP_dropK]; exact hp) (fun i hi => inP_dropK' _ _ _ _ hi) (fun f hf => h.pe f (List.mem_filter.1 hf).1) ?_
  exact List.Sublist.nodup ((List.filter_sublist).map _) h.en
theorem EntM.turn {base : Nat} {w w' : World} {e : TE} {K : List (Option TypeId)} (h : EntM w base e) (ht : Turn base K w w') (h1 : some 88 ∉ K) (h2 : some 32 ∉ K) : EntM w' base e := ⟨ht.blk h.b h1, ht.seg h.s h2, h.lo⟩
theorem find_none (base bt : Nat) (s : TS) (k : Int × Int) (gone : Bool) (w : World) (h : TabM base w bt s none) (ok : TOk s) (hk : getE k s.es = none) (hb : base ≤ w.heap.size) :
    Calls Try.prog 26 #[ptr bt, encK k, .bool gone] w fun r w' => r = .returned (.tuple #[.slice none 0 0, .bool false]) ∧ TabM base w' bt s none ∧ Turn base KT w w' := by
  obtain ⟨p, hp⟩ : ∃ p, s.ps[partOf s.ps.length k]? = some p := ⟨_, List.getElem?_eq_getElem (partOf_lt ok.p1 k)⟩
  have HT := Lib.hid h
  have HP := Lib.hid hp
  have HB := Lib.hid hb
  have HPART : Hid (∀ w', Below w.heap.size w w' → Calls Try.prog 35 #[ptr bt, encK k] w' fun r w'' => r = .returned (ptr p.1) ∧ Below w'.heap.size w' w'') := Lib.hid fun w' hb' => part_any base bt s none k p w' (h.chain hb') ok.p1 ok.p2 hp
  have HK := Lib.hid hk
  have hbx := Lib.hid h
  have HBOX : Hid (∀ (w0 w' : World), Below w0.heap.size w0 w' → True) := Lib.hid fun _ _ _ => trivial
  clear h ok hk hp hb HBOX hbx
  unfold encK at *
  go_enter_defers Try.func26, Try.ntmps26
  go_wp2_with fail
  have HBK : Hid (Blk (w.alloc (.cells #[.int .i64 k.1, .int .u32 k.2] 35)) w.heap.size #[.int .i64 k.1, .int .u32 k.2] 35) := Lib.hid (Blk.new w _ _)
  have HB0 := Lib.hid (Below.chainAlloc (Below.refl _ w) (.cells #[.int .i64 k.1, .int .u32 k.2] 35))
  generalize w.alloc (.cells #[.int .i64 k.1, .int .u32 k.2] 35) = W0 at *
  refine (HPART.out _ HB0.out).mono ?_
  rintro r w1 ⟨rfl, hb1⟩
  have hbw := Below.chain hb1 HB0.out
  have hT1 := HT.out.chain hbw
  obtain ⟨hpc, _⟩ := hT1.pc _ _ HP.out
  have c0 := hpc.facts.1 0
  have f0 := hpc.facts.2.1 0
  have HT2 := Lib.hid (hT1.lock HP.out)
  have HTN : Hid (Turn base KT w (w1.setCell ⟨p.1, 0, none⟩ (.int .i32 1))) := Lib.hid ((Turn.of_below hbw).trans (Turn.one ((Only.refl _ _).setCell _ _ (.inl (by simp))) (hT1.pc _ _ HP.out).2 hpc.kind (by simp)))
  have hlp : p.1 < w.heap.size := (HT.out.pc _ _ HP.out).1.lt
  have HK2 : Hid (Blk (w1.setCell ⟨p.1, 0, none⟩ (.int .i32 1)) w.heap.size #[.int .i64 k.1, .int .u32 k.2] 35) := Lib.hid ((HBK.out.below hb1 HBK.out.lt).setOther _ _ (by show w.heap.size ≠ p.1; omega))
  have HS2 : Hid (w.heap.size ≤ (w1.setCell ⟨p.1, 0, none⟩ (.int .i32 1)).heap.size) := Lib.hid HTN.out.size
  have c0' : w1.cell? ⟨p.1, 0, none⟩ = some (.int .i32 0) := c0
  clear hb1 hbw hT1 hpc c0 HBK HB0 HPART
  go_wp2_with (go_at_call 22; refine (lock_free muLib ⟨p.1, 0, none⟩ _ c0' f0).mono ?_; rintro r w2 ⟨rfl, rfl⟩)
  generalize w1.setCell ⟨p.1, 0, none⟩ (.int .i32 1) = w2 at *
  have hlk := (HT2.out.pm _ _ HP.out).1.drew.look keyLaw und63 k (zeroE _) false
  rw [getM_inP, HK.out] at hlk
  have m2 := (HT2.out.pc _ _ HP.out).1.facts.1 2
  have kx0 := HK2.out.facts.1 0
  have kx1 := HK2.out.facts.1 1
  have hlk' : (Instr.lookup 63 (.map (some p.2)) (.agg #[.int .i64 k.1, .int .u32 k.2]) false).run Try.prog w2.drew = .ok (.pointer none) w2.drew := hlk
  clear hlk c0' f0
  go_region
  go_wp2_with fail
  have HT3 : Hid (TabM base w2.drew bt s (some (partOf s.ps.length k))) := Lib.hid (HT2.out.chain (Below.refl _ _).drew)
  have hpc3 := (HT3.out.pc _ _ HP.out).1
  have HC3 : Hid (w2.drew.cell? ⟨p.1, 0, none⟩ = some (.int .i32 1) ∧ w2.drew.frozen? ⟨p.1, 0, none⟩ = false) := Lib.hid ⟨by have := hpc3.facts.1 0; simpa [partC, lockOf] using this, hpc3.facts.2.1 0⟩
  refine leaves_cons (f := 23) (args := #[.pointer (some ⟨p.1, 0, none⟩)]) (by simp) (by simp [go_sem]) ?_
  refine (unlock_deferred muLib ⟨p.1, 0, none⟩ .returning _ ?_ ?_).mono ?_
  · exact HC3.out.1
  · exact HC3.out.2
  rintro r u' w4 ⟨rfl, rfl, rfl⟩
  have hA := HT3.out.unlock HP.out
  have hB := (HTN.out.step (Below.refl _ _).drew).trans (Turn.one (K := KT) ((Only.refl _ _).setCell ⟨p.1, 0, none⟩ (.int .i32 0) (.inl (by simp))) (HT3.out.pc _ _ HP.out).2 (HT3.out.pc _ _ HP.out).1.kind (by simp))
  exact ⟨_, results_tmp2 rfl _ _ _, rfl, hA, hB⟩
theorem find_get (base bt : Nat) (s : TS) (k : Int × Int) (e : TE) (w : World) (h : TabM base w bt s none) (ok : TOk s) (hk : getE k s.es = some e) (hb : base ≤ w.heap.size) :
    Calls Try.prog 26 #[ptr bt, encK k, .bool false] w fun r w' => r = .returned (.tuple #[e.sv, .bool true]) ∧ TabM base w' bt s none ∧ Turn base KT w w' ∧ ShS w' base e.sv e.l := by
  obtain ⟨p, hp⟩ : ∃ p, s.ps[partOf s.ps.length k]? = some p := ⟨_, List.getElem?_eq_getElem (partOf_lt ok.p1 k)⟩
  have HT := Lib.hid h
  have HP := Lib.hid hp
  have HB := Lib.hid hb
  have HPART : Hid (∀ w', Below w.heap.size w w' → Calls Try.prog 35 #[ptr bt, encK k] w' fun r w'' => r = .returned (ptr p.1) ∧ Below w'.heap.size w' w'') := Lib.hid fun w' hb' => part_any base bt s none k p w' (h.chain hb') ok.p1 ok.p2 hp
  obtain ⟨hem, hek⟩ := getE_some hk
  have HEM := Lib.hid hem
  have HEOK := Lib.hid (ok.ok e hem)
  have HK := Lib.hid hk
  have hbx := Lib.hid h
  have HBOX : Hid (∀ (w0 w' : World), Below w0.heap.size w0 w' → True) := Lib.hid fun _ _ _ => trivial
  clear h ok hk hp hb hem hek HBOX hbx
  unfold encK at *
  go_enter_defers Try.func26, Try.ntmps26
  go_wp2_with fail
  have HBK : Hid (Blk (w.alloc (.cells #[.int .i64 k.1, .int .u32 k.2] 35)) w.heap.size #[.int .i64 k.1, .int .u32 k.2] 35) := Lib.hid (Blk.new w _ _)
  have HB0 := Lib.hid (Below.chainAlloc (Below.refl _ w) (.cells #[.int .i64 k.1, .int .u32 k.2] 35))
  generalize w.alloc (.cells #[.int .i64 k.1, .int .u32 k.2] 35) = W0 at *
  refine (HPART.out _ HB0.out).mono ?_
  rintro r w1 ⟨rfl, hb1⟩
  have hbw := Below.chain hb1 HB0.out
  have hT1 := HT.out.chain hbw
  obtain ⟨hpc, _⟩ := hT1.pc _ _ HP.out
  have c0 := hpc.facts.1 0
  have f0 := hpc.facts.2.1 0
  have HT2 := Lib.hid (hT1.lock HP.out)
  have HTN : Hid (Turn base KT w (w1.setCell ⟨p.1, 0, none⟩ (.int .i32 1))) := Lib.hid ((Turn.of_below hbw).trans (Turn.one ((Only.refl _ _).setCell _ _ (.inl (by simp))) (hT1.pc _ _ HP.out).2 hpc.kind (by simp)))
  have hlp : p.1 < w.heap.size := (HT.out.pc _ _ HP.out).1.lt
  have HK2 : Hid (Blk (w1.setCell ⟨p.1, 0, none⟩ (.int .i32 1)) w.heap.size #[.int .i64 k.1, .int .u32 k.2] 35) := Lib.hid ((HBK.out.below hb1 HBK.out.lt).setOther _ _ (by show w.heap.size ≠ p.1; omega))
  have HS2 : Hid (w.heap.size ≤ (w1.setCell ⟨p.1, 0, none⟩ (.int .i32 1)).heap.size) := Lib.hid HTN.out.size
  have c0' : w1.cell? ⟨p.1, 0, none⟩ = some (.int .i32 0) := c0
  clear hb1 hbw hT1 hpc c0 HBK HB0 HPART
  go_wp2_with (go_at_call 22; refine (lock_free muLib ⟨p.1, 0, none⟩ _ c0' f0).mono ?_; rintro r w2 ⟨rfl, rfl⟩)
  generalize w1.setCell ⟨p.1, 0, none⟩ (.int .i32 1) = w2 at *
  have hlk := (HT2.out.pm _ _ HP.out).1.drew.look keyLaw und63 k (zeroE _) false
  rw [getM_inP, HK.out] at hlk
  have m2 := (HT2.out.pc _ _ HP.out).1.facts.1 2
  have kx0 := HK2.out.facts.1 0
  have kx1 := HK2.out.facts.1 1
  have hlk' : (Instr.lookup 63 (.map (some p.2)) (.agg #[.int .i64 k.1, .int .u32 k.2]) false).run Try.prog w2.drew = .ok (ptr e.eb) w2.drew := hlk
  clear hlk c0' f0
  have HT3 : Hid (TabM base w2.drew bt s (some (partOf s.ps.length k))) := Lib.hid (HT2.out.chain (Below.refl _ _).drew)
  have hpc3 := (HT3.out.pc _ _ HP.out).1
  have HC3 : Hid (w2.drew.cell? ⟨p.1, 0, none⟩ = some (.int .i32 1) ∧ w2.drew.frozen? ⟨p.1, 0, none⟩ = false) := Lib.hid ⟨by have := hpc3.facts.1 0; simpa [partC, lockOf] using this, hpc3.facts.2.1 0⟩
  have e1 : w2.cell? ⟨e.eb, 1, none⟩ = some e.sv := (HT2.out.pe e HEM.out).b.facts.1 1
  go_region
  go_wp2_with fail
  refine leaves_cons (f := 23) (args := #[.pointer (some ⟨p.1, 0, none⟩)]) (by simp) (by simp [go_sem]) ?_
  refine (unlock_deferred muLib ⟨p.1, 0, none⟩ .returning _ ?_ ?_).mono ?_
  · exact HC3.out.1
  · exact HC3.out.2
  rintro r u' w4 ⟨rfl, rfl, rfl⟩
  have hA := HT3.out.unlock HP.out
  have hB := (HTN.out.step (Below.refl _ _).drew).trans (Turn.one (K := KT) ((Only.refl _ _).setCell ⟨p.1, 0, none⟩ (.int .i32 0) (.inl (by simp))) (HT3.out.pc _ _ HP.out).2 (HT3.out.pc _ _ HP.out).1.kind (by simp))
  exact ⟨_, results_tmp2 rfl _ _ _, rfl, hA, hB, (hA.pe e HEM.out).s⟩
theorem find_take (base bt : Nat) (s : TS) (k : Int × Int) (e : TE) (w : World) (h : TabM base w bt s none) (ok : TOk s) (hk : getE k s.es = some e) (hb : base ≤ w.heap.size) :
    Calls Try.prog 26 #[ptr bt, encK k, .bool true] w fun r w' => r = .returned (.tuple #[e.sv, .bool true]) ∧ TabM base w' bt { s with es := dropK k s.es, n := s.n - 1 } none ∧ Turn base KT w w' ∧ ShS w' base e.sv e.l := by
  obtain ⟨p, hp⟩ : ∃ p, s.ps[partOf s.ps.length k]? = some p := ⟨_, List.getElem?_eq_getElem (partOf_lt ok.p1 k)⟩
  have HT := Lib.hid h
  have HP := Lib.hid hp
  have HB := Lib.hid hb
  have HPART : Hid (∀ w', Below w.heap.size w w' → Calls Try.prog 35 #[ptr bt, encK k] w' fun r w'' => r = .returned (ptr p.1) ∧ Below w'.heap.size w' w'') := Lib.hid fun w' hb' => part_any base bt s none k p w' (h.chain hb') ok.p1 ok.p2 hp
  obtain ⟨hem, hek⟩ := getE_some hk
  have HEM := Lib.hid hem
  have HNN : Hid (1 ≤ s.n ∧ s.n ≤ 1000000) := Lib.hid ⟨by rw [ok.n]; exact List.length_pos_of_mem hem, by rw [ok.n]; have := ok.r; have := ok.r2; omega⟩
  have HK := Lib.hid hk
  have hbx := Lib.hid h
  have HBOX : Hid (∀ (w0 w' : World), Below w0.heap.size w0 w' → True) := Lib.hid fun _ _ _ => trivial
  clear h ok hk hp hb hem hek HBOX hbx
  unfold encK at *
  go_enter_defers Try.func26, Try.ntmps26
  go_wp2_with fail
  have HBK : Hid (Blk (w.alloc (.cells #[.int .i64 k.1, .int .u32 k.2] 35)) w.heap.size #[.int .i64 k.1, .int .u32 k.2] 35) := Lib.hid (Blk.new w _ _)
  have HB0 := Lib.hid (Below.chainAlloc (Below.refl _ w) (.cells #[.int .i64 k.1, .int .u32 k.2] 35))
  generalize w.alloc (.cells #[.int .i64 k.1, .int .u32 k.2] 35) = W0 at *
  refine (HPART.out _ HB0.out).mono ?_
  rintro r w1 ⟨rfl, hb1⟩
  have hbw := Below.chain hb1 HB0.out
  have hT1 := HT.out.chain hbw
  obtain ⟨hpc, _⟩ := hT1.pc _ _ HP.out
  have c0 := hpc.facts.1 0
  have f0 := hpc.facts.2.1 0
  have HT2 := Lib.hid (hT1.lock HP.out)
  have HTN : Hid (Turn base KT w (w1.setCell ⟨p.1, 0, none⟩ (.int .i32 1))) := Lib.hid ((Turn.of_below hbw).trans (Turn.one ((Only.refl _ _).setCell _ _ (.inl (by simp))) (hT1.pc _ _ HP.out).2 hpc.kind (by simp)))
  have hlp : p.1 < w.heap.size := (HT.out.pc _ _ HP.out).1.lt
  have HK2 : Hid (Blk (w1.setCell ⟨p.1, 0, none⟩ (.int .i32 1)) w.heap.size #[.int .i64 k.1, .int .u32 k.2] 35) := Lib.hid ((HBK.out.below hb1 HBK.out.lt).setOther _ _ (by show w.heap.size ≠ p.1; omega))
  have HS2 : Hid (w.heap.size ≤ (w1.setCell ⟨p.1, 0, none⟩ (.int .i32 1)).heap.size) := Lib.hid HTN.out.size
  have c0' : w1.cell? ⟨p.1, 0, none⟩ = some (.int .i32 0) := c0
  clear hb1 hbw hT1 hpc c0 HBK HB0 HPART
  go_wp2_with (go_at_call 22; refine (lock_free muLib ⟨p.1, 0, none⟩ _ c0' f0).mono ?_; rintro r w2 ⟨rfl, rfl⟩)
  generalize w1.setCell ⟨p.1, 0, none⟩ (.int .i32 1) = w2 at *
  have hlk := (HT2.out.pm _ _ HP.out).1.drew.look keyLaw und63 k (zeroE _) false
  rw [getM_inP, HK.out] at hlk
  have m2 := (HT2.out.pc _ _ HP.out).1.facts.1 2
  have kx0 := HK2.out.facts.1 0
  have kx1 := HK2.out.facts.1 1
  have hlk' : (Instr.lookup 63 (.map (some p.2)) (.agg #[.int .i64 k.1, .int .u32 k.2]) false).run Try.prog w2.drew = .ok (ptr e.eb) w2.drew := hlk
  clear hlk c0' f0
  have hm2 : MapW encK w2.drew.drew p.2 (inP s.ps.length s.es (partOf s.ps.length k)) := (HT2.out.pm _ _ HP.out).1
  obtain ⟨w3, hrun, hm3, ho3⟩ := hm2.del keyLaw und63 k
  have ho3' : Only [p.2] w2 w3 := (Only.refl _ _).drew.drew.trans ho3
  have HT3 : Hid (TabM base w3 bt { s with es := dropK k s.es } (some (partOf s.ps.length k))) := Lib.hid (HT2.out.delEnt HP.out ho3' hm3)
  have hN3 : Turn base [none] w2 w3 := Turn.one ho3' (HT2.out.pm _ _ HP.out).2 (HT2.out.pm _ _ HP.out).1.kind (by simp)
  have HN3 : Hid (Turn base KT w w3) := Lib.hid (HTN.out.trans (hN3.mono (by simp)))
  have HE3 : Hid (EntM w3 base e) := Lib.hid ((HT2.out.pe e HEM.out).turn hN3 (by decide) (by decide))
  unfold encK at hrun
  clear hm2 hm3 ho3 ho3' hN3
  go_region
  clear hlk'
  go_wp2_with fail
  have m2' : w2.drew.cell? ⟨p.1, 2, none⟩ = some (.map (some p.2)) := m2
  have kx0' : w2.drew.cell? ⟨w.heap.size, 0, none⟩ = some (.int .i64 k.1) := kx0
  have kx1' : w2.drew.cell? ⟨w.heap.size, 1, none⟩ = some (.int .u32 k.2) := kx1
  generalize w2.drew = wd at *
  go_still_tail 5, (by kernel_rfl)
  change wpList _ _ _ _ _ wd.drew
  go_wp2_with fail
  refine (leave_any bt { s with es := dropK k s.es } 1 _ HT3.out.tb HNN.out.1 HNN.out.2).mono ?_
  rintro r w5 ⟨rfl, hb5, ho5⟩
  have HT5 : Hid (TabM base w5 bt { s with es := dropK k s.es, n := s.n - 1 } (some (partOf s.ps.length k))) := Lib.hid (HT3.out.setTab (n := s.n - 1) (made := s.made) ho5 hb5)
  have hN5 : Turn base [some 61] w3 w5 := Turn.only1 ho5 HT3.out.lo HT3.out.tb (by simp)
  have HN5 : Hid (Turn base KT w w5) := Lib.hid (HN3.out.trans (hN5.mono (by simp)))
  have HE5 : Hid (EntM w5 base e) := Lib.hid (HE3.out.turn hN5 (by decide) (by decide))
  have hpc3 := (HT5.out.pc _ _ HP.out).1
  have HC3 : Hid (w5.cell? ⟨p.1, 0, none⟩ = some (.int .i32 1) ∧ w5.frozen? ⟨p.1, 0, none⟩ = false) := Lib.hid ⟨by have := hpc3.facts.1 0; simpa [partC, lockOf] using this, hpc3.facts.2.1 0⟩
  have e1 : w5.cell? ⟨e.eb, 1, none⟩ = some e.sv := HE5.out.b.facts.1 1
  clear hb5 ho5 hN5 hpc3 m2 kx0 kx1 m2' kx0' kx1'
  go_wp2_with fail
  refine leaves_cons (f := 23) (args := #[.pointer (some ⟨p.1, 0, none⟩)]) (by simp) (by simp [go_sem]) ?_
  refine (unlock_deferred muLib ⟨p.1, 0, none⟩ .returning _ ?_ ?_).mono ?_
  · exact HC3.out.1
  · exact HC3.out.2
  rintro r u' w4 ⟨rfl, rfl, rfl⟩
  have hA := HT5.out.unlock HP.out
  have hN6 : Turn base [some 65] w5 (w5.setCell ⟨p.1, 0, none⟩ (.int .i32 0)) := Turn.one ((Only.refl _ _).setCell ⟨p.1, 0, none⟩ (.int .i32 0) (.inl (by simp))) (HT5.out.pc _ _ HP.out).2 (HT5.out.pc _ _ HP.out).1.kind (by simp)
  exact ⟨_, results_tmp2 rfl _ _ _, rfl, hA, HN5.out.trans (hN6.mono (by simp)), (HE5.out.turn hN6 (by decide) (by decide)).s⟩
end Go.Proofs.Ytnommofekjiiaaa
