/-
  The table: put (chapter 18).
-/
import Derived.Test.YtnommofekjiiaaaTa12
namespace Go.Proofs.Ytnommofekjiiaaa
open Go Go.RowKit Go.MuLone
set_option linter.unusedVariables false
set_option linter.unusedSimpArgs false
set_option maxRecDepth 100000
set_option maxHeartbeats 2000000
theorem put_wrong (bt : Nat) (k : Int × Int) (need : Int) (x : Sh) (w : World) (hb : need < 1 ∨ 32 < need ∨ x.1 < 0 ∨ 254 < x.1) :
    Calls Try.prog 25 #[ptr bt, encK k, .int .i64 need, shV x] w fun r w' => r = .returned (verd 5) ∧ Below w.heap.size w w' := by
  unfold encK
  have HB := Lib.hid (Below.chainAlloc (Below.chainAlloc (Below.refl _ w) (.cells #[.int .i64 k.1, .int .u32 k.2] 35)) (.cells #[.int .i64 x.1, Str x.2] 32))
  by_cases h1 : need < 1
  · clear hb
    go_enter_defers Try.func25, Try.ntmps25
    go_wp2_with fail
    exact ⟨_, results_tmp rfl _ _ _, rfl, HB.out⟩
  · by_cases h2 : 32 < need
    · clear hb
      go_enter_defers Try.func25, Try.ntmps25
      go_wp2_with fail
      exact ⟨_, results_tmp rfl _ _ _, rfl, HB.out⟩
    · by_cases h3 : x.1 < 0
      · clear hb
        go_enter_defers Try.func25, Try.ntmps25
        go_wp2_with fail
        exact ⟨_, results_tmp rfl _ _ _, rfl, HB.out⟩
      · have h4 : 254 < x.1 := by omega
        clear hb
        go_enter_defers Try.func25, Try.ntmps25
        go_wp2_with fail
        exact ⟨_, results_tmp rfl _ _ _, rfl, HB.out⟩
theorem MapW.drew {κ : Type} [DecidableEq κ] {enc : κ → Value} {w : World} {b : Nat} {l : List (κ × Value)} (h : MapW enc w b l) : MapW enc w.drew b l := h
theorem EntM.drew {w : World} {base : Nat} {e : TE} (h : EntM w base e) : EntM w.drew base e := ⟨h.b.drew, h.s.drew, h.lo⟩
/-- A part is locked. -/
theorem TabM.lock {base : Nat} {w : World} {bt : Nat} {s : TS} (h : TabM base w bt s none) {j : Nat} {p : Nat × Nat} (hp : s.ps[j]? = some p) : TabM base (w.setCell ⟨p.1, 0, none⟩ (.int .i32 1)) bt s (some j) := by
  refine h.setPart hp (some j) ((Only.refl _ _).setCell _ _ (.inl (by simp))) ((h.pc j p hp).1.setAt 0 _ (by simp [partC, lockOf])) (fun i hi => ?_)
  unfold lockOf
  rw [if_neg (fun e => hi (Option.some.inj e).symm), if_neg (by simp)]
theorem TabM.unlock {base : Nat} {w : World} {bt : Nat} {s : TS} {j : Nat} (h : TabM base w bt s (some j)) {p : Nat × Nat} (hp : s.ps[j]? = some p) : TabM base (w.setCell ⟨p.1, 0, none⟩ (.int .i32 0)) bt s none := by
  refine h.setPart hp none ((Only.refl _ _).setCell _ _ (.inl (by simp))) ((h.pc j p hp).1.setAt 0 _ (by simp [partC, lockOf])) (fun i hi => ?_)
  unfold lockOf
  rw [if_neg (by simp), if_neg (fun e => hi (Option.some.inj e).symm)]
theorem put_there (base bt : Nat) (s : TS) (k : Int × Int) (need : Int) (x : Sh) (e : TE) (w : World) (h : TabM base w bt s none) (ok : TOk s) (hk : getE k s.es = some e) (hb : base ≤ w.heap.size) (hn1 : 1 ≤ need) (hn2 : need ≤ 32) (hx1 : 0 ≤ x.1) (hx2 : x.1 ≤ 254) :
    Calls Try.prog 25 #[ptr bt, encK k, .int .i64 need, shV x] w fun r w' => r = .returned (verd (judgeN e.d need x)) ∧ ∃ sv', TabM base w' bt { s with es := setE { e with l := judgeL e.d need x, sv := sv' } s.es } none ∧ Turn base KT w w' := by
  obtain ⟨p, hp⟩ : ∃ p, s.ps[partOf s.ps.length k]? = some p := ⟨_, List.getElem?_eq_getElem (partOf_lt ok.p1 k)⟩
  have HT := Lib.hid h
  have HP := Lib.hid hp
  have HB := Lib.hid hb
  have HPART : Hid (∀ w', Below w.heap.size w w' → Calls Try.prog 35 #[ptr bt, encK k] w' fun r w'' => r = .returned (ptr p.1) ∧ Below w'.heap.size w' w'') := Lib.hid fun w' hb' => part_any base bt s none k p w' (h.chain hb') ok.p1 ok.p2 hp
  obtain ⟨hem, hek⟩ := getE_some hk
  have HEM := Lib.hid hem
  have HEOK := Lib.hid (ok.ok e hem)
  have HK := Lib.hid hk
  have h1 : ¬ need < 1 := by omega
  have h2 : ¬ 32 < need := by omega
  have h3 : ¬ x.1 < 0 := by omega
  have h4 : ¬ 254 < x.1 := by omega
  have hbx := Lib.hid h
  have HBOX : Hid (∀ (w0 w' : World), Below w0.heap.size w0 w' → True) := Lib.hid fun _ _ _ => trivial
  clear h ok hk hp hb hn1 hn2 hx1 hx2 hem hek HBOX hbx
  unfold encK at *
  go_enter_defers Try.func25, Try.ntmps25
  go_wp2_with fail
  have HBX : Hid (Blk ((w.alloc (.cells #[.int .i64 k.1, .int .u32 k.2] 35)).alloc (.cells #[.int .i64 x.1, Str x.2] 32)) (w.heap.size + 1) #[.int .i64 x.1, Str x.2] 32) := Lib.hid (Blk.newAt (size_alloc _ _).symm)
  have HBK : Hid (Blk ((w.alloc (.cells #[.int .i64 k.1, .int .u32 k.2] 35)).alloc (.cells #[.int .i64 x.1, Str x.2] 32)) w.heap.size #[.int .i64 k.1, .int .u32 k.2] 35) := Lib.hid ((Blk.new w _ _).alloc _)
  have HB0 := Lib.hid (Below.chainAlloc (Below.chainAlloc (Below.refl _ w) (.cells #[.int .i64 k.1, .int .u32 k.2] 35)) (.cells #[.int .i64 x.1, Str x.2] 32))
  generalize (w.alloc (.cells #[.int .i64 k.1, .int .u32 k.2] 35)).alloc (.cells #[.int .i64 x.1, Str x.2] 32) = W0 at *
  refine (HPART.out _ HB0.out).mono ?_
  rintro r w1 ⟨rfl, hb1⟩
  have hbw := Below.chain hb1 HB0.out
  have hT1 := HT.out.chain hbw
  obtain ⟨hpc, _⟩ := hT1.pc _ _ HP.out
  have c0 := hpc.facts.1 0
  have f0 := hpc.facts.2.1 0
  have HT2 := Lib.hid (hT1.lock HP.out)
  have HTN : Hid (Turn base KT w (w1.setCell ⟨p.1, 0, none⟩ (.int .i32 1))) := Lib.hid ((Turn.of_below hbw).trans (Turn.one ((Only.refl _ _).setCell _ _ (.inl (by simp))) (hT1.pc _ _ HP.out).2 hpc.kind (by simp)))
  have hlp : p.1 < w.heap.size := (HT.out.pc _ _ HP.out).1.lt
  have HK2 : Hid (Blk (w1.setCell ⟨p.1, 0, none⟩ (.int .i32 1)) w.heap.size #[.int .i64 k.1, .int .u32 k.2] 35) := Lib.hid ((HBK.out.below hb1 HBK.out.lt).setOther _ _ (by show w.heap.size ≠ p.1; omega))
  have HX2 : Hid (Blk (w1.setCell ⟨p.1, 0, none⟩ (.int .i32 1)) (w.heap.size + 1) #[.int .i64 x.1, Str x.2] 32) := Lib.hid ((HBX.out.below hb1 HBX.out.lt).setOther _ _ (by show w.heap.size + 1 ≠ p.1; omega))
  have HS2 : Hid (w.heap.size ≤ (w1.setCell ⟨p.1, 0, none⟩ (.int .i32 1)).heap.size) := Lib.hid HTN.out.size
  have c0' : w1.cell? ⟨p.1, 0, none⟩ = some (.int .i32 0) := c0
  clear hb1 hbw hT1 hpc c0 HBX HBK HB0 HPART
  go_wp2_with (go_at_call 22; refine (lock_free muLib ⟨p.1, 0, none⟩ _ c0' f0).mono ?_; rintro r w2 ⟨rfl, rfl⟩)
  generalize w1.setCell ⟨p.1, 0, none⟩ (.int .i32 1) = w2 at *
  have hlk := (HT2.out.pm _ _ HP.out).1.drew.look keyLaw und63 k (zeroE _) false
  rw [getM_inP, HK.out] at hlk
  have m2 := (HT2.out.pc _ _ HP.out).1.facts.1 2
  have kx0 := HK2.out.facts.1 0
  have kx1 := HK2.out.facts.1 1
  have hlk' : (Instr.lookup 63 (.map (some p.2)) (.agg #[.int .i64 k.1, .int .u32 k.2]) false).run Try.prog w2.drew = .ok (ptr e.eb) w2.drew := hlk
  have xx0 := HX2.out.facts.1 0
  have xx1 := HX2.out.facts.1 1
  clear hlk c0' f0
  go_region
  go_wp2_with fail
  refine (judge_any e base need x _ ((HT2.out.pe e HEM.out).drew) HEOK.out (by have := HB.out; have := HS2.out; show base ≤ w2.heap.size; omega)).mono ?_
  rintro r w3 ⟨rfl, sv', hm3, ho3⟩
  have hT3 : TabM base w3 bt { s with es := setE { e with l := judgeL e.d need x, sv := sv' } s.es } (some (partOf s.ps.length k)) := HT2.out.setEnt (e' := { e with l := judgeL e.d need x, sv := sv' }) HEM.out rfl rfl ((Only.refl _ _).drew.trans ho3) hm3
  have HT3 := Lib.hid hT3
  have HN3 : Hid (Turn base KT w w3) := Lib.hid (HTN.out.trans ((Turn.one ((Only.refl _ _).drew.trans ho3) (HT2.out.pe e HEM.out).lo (HT2.out.pe e HEM.out).b.kind (by simp))))
  have hpc3 := (hT3.pc _ _ HP.out).1
  have HC3 : Hid (w3.cell? ⟨p.1, 0, none⟩ = some (.int .i32 1) ∧ w3.frozen? ⟨p.1, 0, none⟩ = false) := Lib.hid ⟨by have := hpc3.facts.1 0; simpa [partC, lockOf] using this, hpc3.facts.2.1 0⟩
  clear hT3 hpc3 hm3 ho3 m2 kx0 kx1 xx0 xx1 hlk'
  go_wp2_with fail
  refine leaves_cons (f := 23) (args := #[.pointer (some ⟨p.1, 0, none⟩)]) (by simp) (by simp [go_sem]) ?_
  refine (unlock_deferred muLib ⟨p.1, 0, none⟩ .returning _ HC3.out.1 HC3.out.2).mono ?_
  rintro r u' w4 ⟨rfl, rfl, rfl⟩
  have hA := HT3.out.unlock HP.out
  have hB := HN3.out.trans (Turn.one (K := KT) ((Only.refl _ _).setCell ⟨p.1, 0, none⟩ (.int .i32 0) (.inl (by simp))) (HT3.out.pc _ _ HP.out).2 (HT3.out.pc _ _ HP.out).1.kind (by simp))
  refine ⟨_, results_tmp rfl _ _ _, ?_⟩
  first | exact ⟨rfl, sv', hA, hB⟩ | exact ⟨rfl, ⟨sv', hA⟩, hB⟩
end Go.Proofs.Ytnommofekjiiaaa
