/-
  The table: put, where there is no entry (chapter 18).
-/
import Derived.Test.YtnommofekjiiaaaTa13
import Derived.Deep.Cut
namespace Go.Proofs.Ytnommofekjiiaaa
open Go Go.RowKit Go.MuLone
set_option linter.unusedVariables false
set_option linter.unusedSimpArgs false
set_option maxRecDepth 100000
set_option maxHeartbeats 2000000
theorem Turn.only1 {base : Nat} {K : List (Option TypeId)} {w w' : World} {b : Nat} {cs : Array Value} {t : TypeId} (h : Only [b] w w') (hb : base ≤ b) (hk : Blk w b cs t) (hK : some t ∈ K) : Turn base K w w' := Turn.one h hb hk.kind hK
theorem TabM.addEnt {base : Nat} {W w' : World} {bt : Nat} {s : TS} {hd : Option Nat} (h : TabM base W bt s hd) {k : Int × Int} {p : Nat × Nat} (hj : s.ps[partOf s.ps.length k]? = some p) (hnone : getE k s.es = none) (e : TE) (hek : e.k = k) (hm : EntM W base e) (hfr : ∀ f ∈ s.es, f.eb ≠ e.eb)
    (ho : Only [p.2] W w') (hp : MapW encK w' p.2 (putM k (ptr e.eb) (inP s.ps.length s.es (partOf s.ps.length k)))) : TabM base w' bt { s with es := s.es ++ [e] } hd := by
  have hnew : ∀ q ∈ inP s.ps.length s.es (partOf s.ps.length k), q.1 ≠ k := fun q hq => by
    obtain ⟨f, hf, rfl⟩ := List.mem_map.1 hq
    exact getE_none hnone f (List.mem_filter.1 hf).1
  rw [putM_new hnew] at hp
  refine h.setMap hj (s.es ++ [e]) ho ?_ (fun i hi => ?_) (fun f hf => ?_) ?_
  · have : inP s.ps.length (s.es ++ [e]) (partOf s.ps.length k) = inP s.ps.length s.es (partOf s.ps.length k) ++ [(k, ptr e.eb)] := by
      unfold inP
      rw [List.filter_append, List.map_append, List.filter_cons_of_pos (by simp [hek])]
      simp [TE.mp, hek]
    rw [this]
    exact hp
  · unfold inP
    rw [List.filter_append, List.filter_cons_of_neg (by simp [hek]; exact fun e' => hi e'.symm)]
    simp
  · rcases List.mem_append.1 hf with hf | hf
    · exact h.pe f hf
    · rw [List.mem_singleton.1 hf]; exact hm
  · rw [List.map_append, List.nodup_append]
    refine ⟨h.en, by simp, fun a ha b hb => ?_⟩
    obtain ⟨f, hf, rfl⟩ := List.mem_map.1 ha
    simp at hb
    rw [hb]
    exact hfr f hf
theorem put_full (base bt : Nat) (s : TS) (k : Int × Int) (need : Int) (x : Sh) (w : World) (h : TabM base w bt s none) (ok : TOk s) (hk : getE k s.es = none) (hr : s.room ≤ s.n) (hb : base ≤ w.heap.size) (hn1 : 1 ≤ need) (hn2 : need ≤ 32) (hx1 : 0 ≤ x.1) (hx2 : x.1 ≤ 254) :
    Calls Try.prog 25 #[ptr bt, encK k, .int .i64 need, shV x] w fun r w' => r = .returned (verd 2) ∧ TabM base w' bt s none ∧ Turn base KT w w' := by
  obtain ⟨p, hp⟩ : ∃ p, s.ps[partOf s.ps.length k]? = some p := ⟨_, List.getElem?_eq_getElem (partOf_lt ok.p1 k)⟩
  have HT := Lib.hid h
  have HP := Lib.hid hp
  have HB := Lib.hid hb
  have HPART : Hid (∀ w', Below w.heap.size w w' → Calls Try.prog 35 #[ptr bt, encK k] w' fun r w'' => r = .returned (ptr p.1) ∧ Below w'.heap.size w' w'') := Lib.hid fun w' hb' => part_any base bt s none k p w' (h.chain hb') ok.p1 ok.p2 hp
  have HOK := Lib.hid ok
  have HRR := Lib.hid hr
  clear hr
  have HK := Lib.hid hk
  have h1 : ¬ need < 1 := by omega
  have h2 : ¬ 32 < need := by omega
  have h3 : ¬ x.1 < 0 := by omega
  have h4 : ¬ 254 < x.1 := by omega
  have hbx := Lib.hid h
  have HBOX : Hid (∀ (w0 w' : World), Below w0.heap.size w0 w' → True) := Lib.hid fun _ _ _ => trivial
  clear h ok hk hp hb hn1 hn2 hx1 hx2 HBOX hbx
  unfold encK at *
  go_enter_defers Try.func25, Try.ntmps25
  go_wp2_with fail
  have HBX : Hid (Blk ((w.alloc (.cells #[.int .i64 k.1, .int .u32 k.2] 35)).alloc (.cells #[.int .i64 x.1, Str x.2] 32)) (w.heap.size + 1) #[.int .i64 x.1, Str x.2] 32) := Lib.hid (Blk.newAt (size_alloc _ _).symm)
  have HBK : Hid (Blk ((w.alloc (.cells #[.int .i64 k.1, .int .u32 k.2] 35)).alloc (.cells #[.int .i64 x.1, Str x.2] 32)) w.heap.size #[.int .i64 k.1, .int .u32 k.2] 35) := Lib.hid ((Blk.new w _ _).alloc _)
  have HB0 := Lib.hid (Below.chainAlloc (Below.chainAlloc (Below.refl _ w) (.cells #[.int .i64 k.1, .int .u32 k.2] 35)) (.cells #[.int .i64 x.1, Str x.2] 32))
  generalize (w.alloc (.cells #[.int .i64 k.1, .int .u32 k.2] 35)).alloc (.cells #[.int .i64 x.1, Str x.2] 32) = W0 at *
  refine (HPART.out _ HB0.out).mono ?_
  rintro r w1 ⟨rfl, hb1⟩
  have hbw := Below.chain hb1 HB0.out
  have hT1 := HT.out.chain hbw
  obtain ⟨hpc, _⟩ := hT1.pc _ _ HP.out
  have c0 := hpc.facts.1 0
  have f0 := hpc.facts.2.1 0
  have HT2 := Lib.hid (hT1.lock HP.out)
  have HTN : Hid (Turn base KT w (w1.setCell ⟨p.1, 0, none⟩ (.int .i32 1))) := Lib.hid ((Turn.of_below hbw).trans (Turn.one ((Only.refl _ _).setCell _ _ (.inl (by simp))) (hT1.pc _ _ HP.out).2 hpc.kind (by simp)))
  have hlp : p.1 < w.heap.size := (HT.out.pc _ _ HP.out).1.lt
  have HK2 : Hid (Blk (w1.setCell ⟨p.1, 0, none⟩ (.int .i32 1)) w.heap.size #[.int .i64 k.1, .int .u32 k.2] 35) := Lib.hid ((HBK.out.below hb1 HBK.out.lt).setOther _ _ (by show w.heap.size ≠ p.1; omega))
  have HX2 : Hid (Blk (w1.setCell ⟨p.1, 0, none⟩ (.int .i32 1)) (w.heap.size + 1) #[.int .i64 x.1, Str x.2] 32) := Lib.hid ((HBX.out.below hb1 HBX.out.lt).setOther _ _ (by show w.heap.size + 1 ≠ p.1; omega))
  have HS2 : Hid (w.heap.size ≤ (w1.setCell ⟨p.1, 0, none⟩ (.int .i32 1)).heap.size) := Lib.hid HTN.out.size
  have c0' : w1.cell? ⟨p.1, 0, none⟩ = some (.int .i32 0) := c0
  clear hb1 hbw hT1 hpc c0 HBX HBK HB0 HPART
  go_wp2_with (go_at_call 22; refine (lock_free muLib ⟨p.1, 0, none⟩ _ c0' f0).mono ?_; rintro r w2 ⟨rfl, rfl⟩)
  generalize w1.setCell ⟨p.1, 0, none⟩ (.int .i32 1) = w2 at *
  have hlk := (HT2.out.pm _ _ HP.out).1.drew.look keyLaw und63 k (zeroE _) false
  rw [getM_inP, HK.out] at hlk
  have m2 := (HT2.out.pc _ _ HP.out).1.facts.1 2
  have kx0 := HK2.out.facts.1 0
  have kx1 := HK2.out.facts.1 1
  have hlk' : (Instr.lookup 63 (.map (some p.2)) (.agg #[.int .i64 k.1, .int .u32 k.2]) false).run Try.prog w2.drew = .ok (.pointer none) w2.drew := hlk
  have xx0 := HX2.out.facts.1 0
  have xx1 := HX2.out.facts.1 1
  clear hlk c0' f0
  go_region
  go_wp2_with fail
  refine (enter_full bt s _ HT2.out.tb.drew HRR.out).mono ?_
  rintro r w3 ⟨rfl, hb3, ho3⟩
  have ho3' : Only [bt] w2 w3 := (Only.refl _ _).drew.trans ho3
  have hT3 : TabM base w3 bt s (some (partOf s.ps.length k)) := HT2.out.setTab (n := s.n) (made := s.made) ho3' hb3
  have HT3 := Lib.hid hT3
  have HN3 : Hid (Turn base KT w w3) := Lib.hid (HTN.out.trans (Turn.only1 ho3' HT2.out.lo HT2.out.tb (by simp)))
  have hpc3 := (hT3.pc _ _ HP.out).1
  have HC3 : Hid (w3.cell? ⟨p.1, 0, none⟩ = some (.int .i32 1) ∧ w3.frozen? ⟨p.1, 0, none⟩ = false) := Lib.hid ⟨by have := hpc3.facts.1 0; simpa [partC, lockOf] using this, hpc3.facts.2.1 0⟩
  clear hT3 hpc3 ho3 ho3' hb3 m2 kx0 kx1 xx0 xx1 hlk'
  go_wp2_with fail
  refine leaves_cons (f := 23) (args := #[.pointer (some ⟨p.1, 0, none⟩)]) (by simp) (by simp [go_sem]) ?_
  refine (unlock_deferred muLib ⟨p.1, 0, none⟩ .returning _ HC3.out.1 HC3.out.2).mono ?_
  rintro r u' w4 ⟨rfl, rfl, rfl⟩
  have hA := HT3.out.unlock HP.out
  have hB := HN3.out.trans (Turn.one (K := KT) ((Only.refl _ _).setCell ⟨p.1, 0, none⟩ (.int .i32 0) (.inl (by simp))) (HT3.out.pc _ _ HP.out).2 (HT3.out.pc _ _ HP.out).1.kind (by simp))
  exact ⟨_, results_tmp rfl _ _ _, rfl, hA, hB⟩
theorem put_new (base bt : Nat) (s : TS) (k : Int × Int) (need : Int) (x : Sh) (w : World) (h : TabM base w bt s none) (ok : TOk s) (hk : getE k s.es = none) (hr : s.n < s.room) (hm : s.made ≤ 1000000) (hb : base ≤ w.heap.size) (hn1 : 1 ≤ need) (hn2 : need ≤ 32) (hx1 : 0 ≤ x.1) (hx2 : x.1 ≤ 254) (vn : Nat) (hvn : vn = if need = 1 then 3 else 0) :
    Calls Try.prog 25 #[ptr bt, encK k, .int .i64 need, shV x] w fun r w' => r = .returned (verd vn) ∧ ∃ eb sv, TabM base w' bt { s with es := s.es ++ [⟨k, need, [x], s.made + 1, eb, sv⟩], n := s.n + 1, made := s.made + 1 } none ∧ Turn base KT w w' := by
  obtain ⟨p, hp⟩ : ∃ p, s.ps[partOf s.ps.length k]? = some p := ⟨_, List.getElem?_eq_getElem (partOf_lt ok.p1 k)⟩
  have HT := Lib.hid h
  have HP := Lib.hid hp
  have HB := Lib.hid hb
  have HPART : Hid (∀ w', Below w.heap.size w w' → Calls Try.prog 35 #[ptr bt, encK k] w' fun r w'' => r = .returned (ptr p.1) ∧ Below w'.heap.size w' w'') := Lib.hid fun w' hb' => part_any base bt s none k p w' (h.chain hb') ok.p1 ok.p2 hp
  have HOK := Lib.hid ok
  have HRR := Lib.hid (And.intro hr hm)
  have HVN := Lib.hid hvn
  clear hr hm hvn
  have HK := Lib.hid hk
  have h1 : ¬ need < 1 := by omega
  have h2 : ¬ 32 < need := by omega
  have h3 : ¬ x.1 < 0 := by omega
  have h4 : ¬ 254 < x.1 := by omega
  have hbx := Lib.hid h
  have HBOX : Hid (∀ (w0 w' : World), Below w0.heap.size w0 w' → True) := Lib.hid fun _ _ _ => trivial
  clear h ok hk hp hb hn1 hn2 hx1 hx2 HBOX hbx
  unfold encK at *
  go_enter_defers Try.func25, Try.ntmps25
  go_wp2_with fail
  have HBX : Hid (Blk ((w.alloc (.cells #[.int .i64 k.1, .int .u32 k.2] 35)).alloc (.cells #[.int .i64 x.1, Str x.2] 32)) (w.heap.size + 1) #[.int .i64 x.1, Str x.2] 32) := Lib.hid (Blk.newAt (size_alloc _ _).symm)
  have HBK : Hid (Blk ((w.alloc (.cells #[.int .i64 k.1, .int .u32 k.2] 35)).alloc (.cells #[.int .i64 x.1, Str x.2] 32)) w.heap.size #[.int .i64 k.1, .int .u32 k.2] 35) := Lib.hid ((Blk.new w _ _).alloc _)
  have HB0 := Lib.hid (Below.chainAlloc (Below.chainAlloc (Below.refl _ w) (.cells #[.int .i64 k.1, .int .u32 k.2] 35)) (.cells #[.int .i64 x.1, Str x.2] 32))
  generalize (w.alloc (.cells #[.int .i64 k.1, .int .u32 k.2] 35)).alloc (.cells #[.int .i64 x.1, Str x.2] 32) = W0 at *
  refine (HPART.out _ HB0.out).mono ?_
  rintro r w1 ⟨rfl, hb1⟩
  have hbw := Below.chain hb1 HB0.out
  have hT1 := HT.out.chain hbw
  obtain ⟨hpc, _⟩ := hT1.pc _ _ HP.out
  have c0 := hpc.facts.1 0
  have f0 := hpc.facts.2.1 0
  have HT2 := Lib.hid (hT1.lock HP.out)
  have HTN : Hid (Turn base KT w (w1.setCell ⟨p.1, 0, none⟩ (.int .i32 1))) := Lib.hid ((Turn.of_below hbw).trans (Turn.one ((Only.refl _ _).setCell _ _ (.inl (by simp))) (hT1.pc _ _ HP.out).2 hpc.kind (by simp)))
  have hlp : p.1 < w.heap.size := (HT.out.pc _ _ HP.out).1.lt
  have HK2 : Hid (Blk (w1.setCell ⟨p.1, 0, none⟩ (.int .i32 1)) w.heap.size #[.int .i64 k.1, .int .u32 k.2] 35) := Lib.hid ((HBK.out.below hb1 HBK.out.lt).setOther _ _ (by show w.heap.size ≠ p.1; omega))
  have HX2 : Hid (Blk (w1.setCell ⟨p.1, 0, none⟩ (.int .i32 1)) (w.heap.size + 1) #[.int .i64 x.1, Str x.2] 32) := Lib.hid ((HBX.out.below hb1 HBX.out.lt).setOther _ _ (by show w.heap.size + 1 ≠ p.1; omega))
  have HS2 : Hid (w.heap.size ≤ (w1.setCell ⟨p.1, 0, none⟩ (.int .i32 1)).heap.size) := Lib.hid HTN.out.size
  have c0' : w1.cell? ⟨p.1, 0, none⟩ = some (.int .i32 0) := c0
  clear hb1 hbw hT1 hpc c0 HBX HBK HB0 HPART
  go_wp2_with (go_at_call 22; refine (lock_free muLib ⟨p.1, 0, none⟩ _ c0' f0).mono ?_; rintro r w2 ⟨rfl, rfl⟩)
  generalize w1.setCell ⟨p.1, 0, none⟩ (.int .i32 1) = w2 at *
  have hlk := (HT2.out.pm _ _ HP.out).1.drew.look keyLaw und63 k (zeroE _) false
  rw [getM_inP, HK.out] at hlk
  have m2 := (HT2.out.pc _ _ HP.out).1.facts.1 2
  have kx0 := HK2.out.facts.1 0
  have kx1 := HK2.out.facts.1 1
  have hlk' : (Instr.lookup 63 (.map (some p.2)) (.agg #[.int .i64 k.1, .int .u32 k.2]) false).run Try.prog w2.drew = .ok (.pointer none) w2.drew := hlk
  have xx0 := HX2.out.facts.1 0
  have xx1 := HX2.out.facts.1 1
  clear hlk c0' f0
  go_region
  go_wp2_with fail
  refine (enter_ok bt s _ HT2.out.tb.drew HRR.out.1 (by have := HRR.out.1; have := HOK.out.r2; omega) HRR.out.2).mono ?_
  rintro r w3 ⟨rfl, hb3, ho3⟩
  have ho3' : Only [bt] w2 w3 := (Only.refl _ _).drew.trans ho3
  have hT3 : TabM base w3 bt { s with n := s.n + 1, made := s.made + 1 } (some (partOf s.ps.length k)) := HT2.out.setTab ho3' hb3
  have HT3 := Lib.hid hT3
  have HN3 : Hid (Turn base KT w w3) := Lib.hid (HTN.out.trans (Turn.only1 ho3' HT2.out.lo HT2.out.tb (by simp)))
  have HK3 : Hid (Blk w3 w.heap.size #[.int .i64 k.1, .int .u32 k.2] 35) := Lib.hid (HK2.out.only ho3' (by have := HT.out.tb.lt; simp; omega))
  have HX3 : Hid (Blk w3 (w.heap.size + 1) #[.int .i64 x.1, Str x.2] 32) := Lib.hid (HX2.out.only ho3' (by have := HT.out.tb.lt; simp; omega))
  clear hT3 ho3 ho3' hb3 m2 kx0 kx1 xx0 xx1 hlk' HK2 HX2
  have m2 := (HT3.out.pc _ _ HP.out).1.facts.1 2
  have kx0 := HK3.out.facts.1 0
  have kx1 := HK3.out.facts.1 1
  have xx0 := HX3.out.facts.1 0
  have xx1 := HX3.out.facts.1 1
  have hsz : w3.heap.size + 1 = (w3.alloc (.cells #[.int .i64 x.1, Str x.2] 32)).heap.size := (size_alloc _ _).symm
  have hbelow : Below w3.heap.size w3 ((w3.alloc (.cells #[.int .i64 x.1, Str x.2] 32)).alloc (.cells #[.int .i64 need, .slice (some ⟨w3.heap.size, 0, none⟩) 1 1, .int .i64 ((s.made : Int) + 1)] 88)).drew := (Below.chainAlloc (Below.chainAlloc (Below.refl _ w3) _) _).drew
  have hT4 := HT3.out.chain hbelow
  obtain ⟨w5, hmu, hm5, ho5⟩ := ((hT4.pm _ _ HP.out).1).put keyLaw und63 k (ptr (w3.heap.size + 1))
  have hmu' : (Instr.mapUpdate 63 (.map (some p.2)) (.agg #[.int .i64 k.1, .int .u32 k.2]) (.pointer (some ⟨w3.heap.size + 1, 0, none⟩))).run Try.prog ((w3.alloc (.cells #[.int .i64 x.1, Str x.2] 32)).alloc (.cells #[.int .i64 need, .slice (some ⟨w3.heap.size, 0, none⟩) 1 1, .int .i64 ((s.made : Int) + 1)] 88)).drew = .ok () w5 := hmu
  have HNEW := Lib.hid (And.intro hT4 (And.intro hm5 ho5))
  have hl3 : w.heap.size < w3.heap.size := HK3.out.lt
  have hl4 : w.heap.size + 1 < w3.heap.size := HX3.out.lt
  have hl5 : p.1 < w3.heap.size := (HT3.out.pc _ _ HP.out).1.lt
  clear hmu hT4 hm5 ho5 hbelow hsz
  have HMK : Hid (∀ w', Below w3.heap.size w3 w' → (w'.cell? ⟨p.1, 2, none⟩ = some (.map (some p.2)) ∧ w'.cell? ⟨w.heap.size, 0, none⟩ = some (.int .i64 k.1) ∧ w'.cell? ⟨w.heap.size, 1, none⟩ = some (.int .u32 k.2) ∧ w'.cell? ⟨w.heap.size + 1, 0, none⟩ = some (.int .i64 x.1) ∧ w'.cell? ⟨w.heap.size + 1, 1, none⟩ = some (Str x.2)) ∧ Below w3.heap.size w3 w') := Lib.hid fun w' hb' =>
    ⟨⟨((HT3.out.chain hb').pc _ _ HP.out).1.facts.1 2, (HK3.out.below hb' HK3.out.lt).facts.1 0, (HK3.out.below hb' HK3.out.lt).facts.1 1, (HX3.out.below hb' HX3.out.lt).facts.1 0, (HX3.out.below hb' HX3.out.lt).facts.1 1⟩, hb'⟩
  have HMK5 : Hid ((w5.cell? ⟨p.1, 2, none⟩ = some (.map (some p.2)) ∧ w5.cell? ⟨w.heap.size, 0, none⟩ = some (.int .i64 k.1) ∧ w5.cell? ⟨w.heap.size, 1, none⟩ = some (.int .u32 k.2) ∧ w5.cell? ⟨w.heap.size + 1, 0, none⟩ = some (.int .i64 x.1) ∧ w5.cell? ⟨w.heap.size + 1, 1, none⟩ = some (Str x.2))) := Lib.hid (by
    have hT4 := HNEW.out.1
    have ho5 := HNEW.out.2.2
    have hm4 := (hT4.pm _ _ HP.out).1
    have hb4 : Below w3.heap.size w3 ((w3.alloc (.cells #[.int .i64 x.1, Str x.2] 32)).alloc (.cells #[.int .i64 need, .slice (some ⟨w3.heap.size, 0, none⟩) 1 1, .int .i64 ((s.made : Int) + 1)] 88)).drew := (Below.chainAlloc (Below.chainAlloc (Below.refl _ w3) _) _).drew
    have k4 := HK3.out.below hb4 HK3.out.lt
    have x4 := HX3.out.below hb4 HX3.out.lt
    have ne : ∀ {b : Nat} {cs : Array Value} {t : TypeId}, Blk ((w3.alloc (.cells #[.int .i64 x.1, Str x.2] 32)).alloc (.cells #[.int .i64 need, .slice (some ⟨w3.heap.size, 0, none⟩) 1 1, .int .i64 ((s.made : Int) + 1)] 88)).drew b cs t → b ∉ [p.2] := fun hbk hm => by
      rw [List.mem_singleton.1 hm] at hbk
      have h1 := hbk.kind
      rw [hm4.kind] at h1
      cases h1
    have p5 := ((hT4.pc _ _ HP.out).1.only ho5 (ne (hT4.pc _ _ HP.out).1))
    have k5 := k4.only ho5 (ne k4)
    have x5 := x4.only ho5 (ne x4)
    exact ⟨p5.facts.1 2, k5.facts.1 0, k5.facts.1 1, x5.facts.1 0, x5.facts.1 1⟩)
  clear m2 kx0 kx1 xx0 xx1
  go_upto_region 12 with fail
  go_cut [2] from 62 (fun v2 wx => v2 = .int .i64 need ∧ wx = w5)
  case first =>
    go_region_held3 (fun w' => (w'.cell? ⟨p.1, 2, none⟩ = some (.map (some p.2)) ∧ w'.cell? ⟨w.heap.size, 0, none⟩ = some (.int .i64 k.1) ∧ w'.cell? ⟨w.heap.size, 1, none⟩ = some (.int .u32 k.2) ∧ w'.cell? ⟨w.heap.size + 1, 0, none⟩ = some (.int .i64 x.1) ∧ w'.cell? ⟨w.heap.size + 1, 1, none⟩ = some (Str x.2)))
      (first
        | exact (HMK.out _ (Below.refl _ _).drew).1
        | exact (HMK.out _ (Below.chainAlloc (Below.refl _ _) _).drew).1
        | exact (HMK.out _ (Below.chainAlloc (Below.refl _ _).drew _)).1
        | exact (HMK.out _ (Below.chainAlloc (Below.chainAlloc (Below.refl _ _) _) _).drew).1
        | exact (HMK.out _ (Below.chainAlloc (Below.chainAlloc (Below.refl _ _).drew _) _)).1
        | exact HMK5.out)
      ((fail))
    all_goals
      go_wp2_with fail
      go_meet
      exact ⟨rfl, rfl⟩
  case rest =>
    obtain ⟨rfl, rfl⟩ := hcut
    have hA : TabM base wc bt { s with es := s.es ++ [⟨k, need, [x], s.made + 1, w3.heap.size + 1, .slice (some ⟨w3.heap.size, 0, none⟩) 1 1⟩], n := s.n + 1, made := s.made + 1 } (some (partOf s.ps.length k)) := by
      refine HNEW.out.1.addEnt (s := { s with n := s.n + 1, made := s.made + 1 }) HP.out HK.out ⟨k, need, [x], s.made + 1, w3.heap.size + 1, .slice (some ⟨w3.heap.size, 0, none⟩) 1 1⟩ rfl ⟨?_, ?_, ?_⟩ (fun f hf => ?_) HNEW.out.2.2 HNEW.out.2.1
      · exact (Blk.newAt (by rw [size_alloc])).drew
      · refine ⟨rfl, .inr ⟨w3.heap.size, 0, 1, #[.int .i64 x.1, Str x.2], rfl, ?_, ?_, Nat.le_refl _, by decide, by simp, rfl⟩⟩
        · have := HB.out; have := HS2.out; have := HN3.out.size; have := HTN.out.size; omega
        · exact ((Blk.new w3 #[.int .i64 x.1, Str x.2] 32).alloc _).drew
      · show base ≤ w3.heap.size + 1
        have := HB.out; have := HN3.out.size; omega
      · have := (HT3.out.pe f hf).b.lt
        show f.eb ≠ w3.heap.size + 1
        omega
    have HA := Lib.hid hA
    have HN5 : Hid (Turn base KT w wc) := Lib.hid ((HN3.out.step (Below.chainAlloc (Below.chainAlloc (Below.refl _ w3) _) _).drew).trans (Turn.one HNEW.out.2.2 (HNEW.out.1.pm _ _ HP.out).2 (HNEW.out.1.pm _ _ HP.out).1.kind (by simp)))
    have hpc3 := (hA.pc _ _ HP.out).1
    have HC3 : Hid (wc.cell? ⟨p.1, 0, none⟩ = some (.int .i32 1) ∧ wc.frozen? ⟨p.1, 0, none⟩ = false) := Lib.hid ⟨by have := hpc3.facts.1 0; simpa [partC, lockOf] using this, hpc3.facts.2.1 0⟩
    clear hA hpc3
    have HFIN : Hid (∀ w4, w4 = wc.setCell ⟨p.1, 0, none⟩ (.int .i32 0) → ∃ eb sv, TabM base w4 bt { s with es := s.es ++ [⟨k, need, [x], s.made + 1, eb, sv⟩], n := s.n + 1, made := s.made + 1 } none ∧ Turn base KT w w4) := Lib.hid fun w4 e4 => by
      subst e4
      exact ⟨_, _, HA.out.unlock HP.out, HN5.out.trans (Turn.one (K := KT) ((Only.refl _ _).setCell ⟨p.1, 0, none⟩ (.int .i32 0) (.inl (by simp))) (HA.out.pc _ _ HP.out).2 (HA.out.pc _ _ HP.out).1.kind (by simp))⟩
    by_cases hone : need = 1
    · have hvn : vn = 3 := by rw [HVN.out, if_pos hone]
      subst hvn
      go_wp2_with fail
      refine leaves_cons (f := 23) (args := #[.pointer (some ⟨p.1, 0, none⟩)]) (by simp) (by simp [go_sem]) ?_
      refine (unlock_deferred muLib ⟨p.1, 0, none⟩ .returning _ HC3.out.1 HC3.out.2).mono ?_
      rintro r u' w4 ⟨rfl, rfl, rfl⟩
      exact ⟨_, results_tmp rfl _ _ _, rfl, HFIN.out _ rfl⟩
    · have hvn : vn = 0 := by rw [HVN.out, if_neg hone]
      subst hvn
      have hb1 : (need == 1) = false := beq_eq_false_iff_ne.2 hone
      go_wp2_with fail
      refine leaves_cons (f := 23) (args := #[.pointer (some ⟨p.1, 0, none⟩)]) (by simp) (by simp [go_sem]) ?_
      refine (unlock_deferred muLib ⟨p.1, 0, none⟩ .returning _ HC3.out.1 HC3.out.2).mono ?_
      rintro r u' w4 ⟨rfl, rfl, rfl⟩
      exact ⟨_, results_tmp rfl _ _ _, rfl, HFIN.out _ rfl⟩
end Go.Proofs.Ytnommofekjiiaaa
