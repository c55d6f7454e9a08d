/-
  An endpoint that is made (chapter 30).
-/
import Derived.Test.YteepdknnmdhckaaCp2
import Derived.Test.YteepdknnmdhckaaBigC
namespace Go.Proofs.Yteepdknnmdhckaa
open Go Go.RowKit
set_option linter.unusedVariables false
set_option linter.unusedSimpArgs false
set_option maxRecDepth 100000
set_option maxHeartbeats 2000000
theorem cnew0 (w : World) : Calls Try.prog 21 #[] w fun e w' => e = .returned (.pointer (some ⟨w.heap.size, 0, none⟩)) ∧ w' = w.alloc (.cells #[.slice none 0 0] 84) := by
  go_enter Try.func21, Try.ntmps21
  go_wp2_with fail
  go_ret
  exact ⟨rfl, rfl⟩
theorem clnew0 (w : World) : Calls Try.prog 22 #[] w fun e w' => e = .returned (.pointer (some ⟨w.heap.size + 1, 0, none⟩)) ∧ w' = (w.alloc (.map #[] 0)).alloc (.cells #[.map (some w.heap.size)] 87) := by
  have hmm : ∀ (w : World), (Instr.makeMap 85 none).run Try.prog w = .ok (.map (some w.heap.size)) (w.alloc (.map #[] 0)) := fun _ => rfl
  go_enter Try.func22, Try.ntmps22
  go_wp2_with fail
  go_ret
  exact ⟨rfl, rfl⟩
theorem jnew0 (z : Int) (w : World) (h0 : 1 ≤ z) (h1 : z ≤ 4096) : Calls Try.prog 25 #[.int .i64 z] w fun e w' => e = .returned (.tuple #[.pointer (some ⟨w.heap.size, 0, none⟩), .int .i64 0]) ∧ w' = w.alloc (.cells #[.slice none 0 0, .int .i64 z, .bool false] 108) := by
  have t1 : ¬ z < 1 := by omega
  have t2 : ¬ 4096 < z := by omega
  go_enter Try.func25, Try.ntmps25
  go_wp2_with fail
  go_ret2
  exact ⟨rfl, rfl⟩
theorem dnew0 (z : Int) (h1 : 1 ≤ z) (h2 : z ≤ 65536) (w : World) : Calls Try.prog 23 #[.int .i64 z] w fun e w' => e = .returned (.tuple #[.pointer (some ⟨w.heap.size, 0, none⟩), .int .i64 0]) ∧ w.heap.size < w'.heap.size ∧ Below w.heap.size w w' := by
  have h3 : ¬ z < 1 := by omega
  have h4 : ¬ 65536 < z := by omega
  go_enter Try.func23, Try.ntmps23
  go_wp2_with fail
  go_ret2
  exact ⟨rfl, by rw [size_alloc]; omega, Below.chainAlloc (Below.refl _ _) _⟩
theorem nnew0 (z : Int) (h1 : 1 ≤ z) (h2 : z ≤ 4096) (w : World) : Calls Try.prog 19 #[.int .i64 z] w fun e w' => e = .returned (.tuple #[.pointer (some ⟨w.heap.size, 0, none⟩), .int .i64 0]) ∧ w' = w.alloc (.cells #[.slice none 0 0, .int .i64 z] 78) := by
  have h3 : ¬ z < 1 := by omega
  have h4 : ¬ 4096 < z := by omega
  go_enter Try.func19, Try.ntmps19
  go_wp2_with fail
  go_ret2
  exact ⟨rfl, rfl⟩
theorem zero_end : Try.zeroCells69 = ((List.replicate 11 (Value.int .i64 0) ++ List.replicate 256 (Value.pointer none)) ++ ([Value.int .i64 0, Value.pointer none, Value.pointer none, Value.map none, Value.pointer none, Value.slice none 0 0, Value.pointer none, Value.pointer none, Value.slice none 0 0, Value.int .i64 0, Value.bool false] ++ List.replicate 9 (Value.int .i64 0))).toArray := by kernel_rfl
/-- An endpoint's cells: no stream is there. -/
structure EndZ (cs : Array Value) (st tb jb ct : Value) : Prop where
  z : cs.size = 287
  s : ∀ i, i < 256 → cs[11 + i]? = some (.pointer none)
  c267 : cs[267]? = some (.int .i64 0)
  c268 : cs[268]? = some st
  c269 : cs[269]? = some tb
  c271 : cs[271]? = some jb
  c272 : cs[272]? = some (.slice none 0 0)
  c273 : cs[273]? = some ct
theorem endZ_new (k r s wi bu q qu t wo ws ti : Int) (m c l : Nat) : EndZ (((((((((((((((Try.zeroCells69.setIfInBounds 0 (.int .i64 k)).setIfInBounds 1 (.int .i64 r)).setIfInBounds 2 (.int .i64 s)).setIfInBounds 3 (.int .i64 wi)).setIfInBounds 4 (.int .i64 bu)).setIfInBounds 5 (.int .i64 q)).setIfInBounds 6 (.int .i64 qu)).setIfInBounds 7 (.int .i64 t)).setIfInBounds 8 (.int .i64 wo)).setIfInBounds 9 (.int .i64 ws)).setIfInBounds 10 (.int .i64 ti))).setIfInBounds 270 (.map (some m))).setIfInBounds 273 (.pointer (some ⟨c, 0, none⟩))).setIfInBounds 274 (.pointer (some ⟨l, 0, none⟩))) (.pointer none) (.pointer none) (.pointer none) (.pointer (some ⟨c, 0, none⟩)) := by
  rw [zero_end]
  refine ⟨by simp, fun i hi => ?_, ?_, ?_, ?_, ?_, ?_, ?_⟩
  · rw [Array.getElem?_setIfInBounds, if_neg (by omega), Array.getElem?_setIfInBounds, if_neg (by omega), Array.getElem?_setIfInBounds, if_neg (by omega)]
    iterate 11 rw [Array.getElem?_setIfInBounds, if_neg (by omega)]
    rw [List.getElem?_toArray, List.getElem?_append_left (by simp; omega), List.getElem?_append_right (by simp)]
    simp only [List.length_replicate, Nat.add_sub_cancel_left]
    rw [List.getElem?_replicate, if_pos hi]
  all_goals
    repeat rw [Array.getElem?_setIfInBounds]
    simp
theorem EndZ.set268 {cs : Array Value} {st tb jb ct v : Value} (h : EndZ cs st tb jb ct) : EndZ (cs.setIfInBounds 268 v) v tb jb ct :=
  ⟨by rw [Array.size_setIfInBounds]; exact h.z, fun i hi => by rw [Array.getElem?_setIfInBounds, if_neg (by omega)]; exact h.s i hi, by rw [Array.getElem?_setIfInBounds, if_neg (by decide)]; exact h.c267, by rw [Array.getElem?_setIfInBounds, if_pos rfl, if_pos (by rw [h.z]; decide)], by rw [Array.getElem?_setIfInBounds, if_neg (by decide)]; exact h.c269, by rw [Array.getElem?_setIfInBounds, if_neg (by decide)]; exact h.c271, by rw [Array.getElem?_setIfInBounds, if_neg (by decide)]; exact h.c272, by rw [Array.getElem?_setIfInBounds, if_neg (by decide)]; exact h.c273⟩
theorem EndZ.set269 {cs : Array Value} {st tb jb ct v : Value} (h : EndZ cs st tb jb ct) : EndZ (cs.setIfInBounds 269 v) st v jb ct :=
  ⟨by rw [Array.size_setIfInBounds]; exact h.z, fun i hi => by rw [Array.getElem?_setIfInBounds, if_neg (by omega)]; exact h.s i hi, by rw [Array.getElem?_setIfInBounds, if_neg (by decide)]; exact h.c267, by rw [Array.getElem?_setIfInBounds, if_neg (by decide)]; exact h.c268, by rw [Array.getElem?_setIfInBounds, if_pos rfl, if_pos (by rw [h.z]; decide)], by rw [Array.getElem?_setIfInBounds, if_neg (by decide)]; exact h.c271, by rw [Array.getElem?_setIfInBounds, if_neg (by decide)]; exact h.c272, by rw [Array.getElem?_setIfInBounds, if_neg (by decide)]; exact h.c273⟩
theorem EndZ.set271 {cs : Array Value} {st tb jb ct v : Value} (h : EndZ cs st tb jb ct) : EndZ (cs.setIfInBounds 271 v) st tb v ct :=
  ⟨by rw [Array.size_setIfInBounds]; exact h.z, fun i hi => by rw [Array.getElem?_setIfInBounds, if_neg (by omega)]; exact h.s i hi, by rw [Array.getElem?_setIfInBounds, if_neg (by decide)]; exact h.c267, by rw [Array.getElem?_setIfInBounds, if_neg (by decide)]; exact h.c268, by rw [Array.getElem?_setIfInBounds, if_neg (by decide)]; exact h.c269, by rw [Array.getElem?_setIfInBounds, if_pos rfl, if_pos (by rw [h.z]; decide)], by rw [Array.getElem?_setIfInBounds, if_neg (by decide)]; exact h.c272, by rw [Array.getElem?_setIfInBounds, if_neg (by decide)]; exact h.c273⟩
/-- An endpoint that was made, at base or above. -/
structure EndN (base : Nat) (w : World) (be bt bj bc : Nat) : Prop where
  e : ∃ cs st, Blk w be cs 69 ∧ EndZ cs st (.pointer (some ⟨bt, 0, none⟩)) (.pointer (some ⟨bj, 0, none⟩)) (.pointer (some ⟨bc, 0, none⟩))
  t : ∃ b0 room s, base ≤ b0 ∧ Tab b0 w bt room [] 0 s
  j : ∃ z, Blk w bj #[.slice none 0 0, .int .i64 z, .bool false] 108
  c : Blk w bc #[.slice none 0 0] 84
  lo : base ≤ be ∧ base ≤ bj ∧ base ≤ bc
theorem blk_ne {w : World} {a b : Nat} {cs cs' : Array Value} {t t' : TypeId} (h1 : Blk w a cs t) (h2 : Blk w b cs' t') (ht : t ≠ t') : b ≠ a := fun e => by
  subst e
  have := h1.kind.symm.trans h2.kind
  simp only [Option.some.injEq] at this
  exact ht this
theorem TabM.other {base : Nat} {w w' : World} {bt x : Nat} {s : TS} {hd : Option Nat} (h : TabM base w bt s hd) (ho : Only [x] w w') (hx : x < base) : TabM base w' bt s hd :=
  ⟨h.tb.only ho (by have := h.lo; simp; omega), h.lo, h.pa.only ho (fun g hg hm => by have := (h.pa.blk g hg).1; simp at hm; omega), fun j p hp => ⟨(h.pc j p hp).1.only ho (by have := (h.pc j p hp).2; simp; omega), (h.pc j p hp).2⟩, fun j p hp => ⟨(h.pm j p hp).1.only ho (by have := (h.pm j p hp).2; simp; omega), (h.pm j p hp).2⟩, h.n1, h.n2, fun e he => ⟨(h.pe e he).b.only ho (by have := (h.pe e he).lo; simp; omega), (h.pe e he).s.only ho (fun g hg hm => by have := ((h.pe e he).s.blk g hg).1; simp at hm; omega), (h.pe e he).lo⟩, h.en⟩
theorem Tab.other {base : Nat} {w w' : World} {bt x room m : Nat} {A : List DE} {s : TS} (h : Tab base w bt room A m s) (ho : Only [x] w w') (hx : x < base) : Tab base w' bt room A m s := ⟨h.h.other ho hx, h.ok, h.a, h.r, h.m⟩
/-- Behind the fourth region. -/
def New4 (k r s wi bu q qu t wo ws ti : Int) (w : World) (b : Nat) (v5 : Value) (wx : World) : Prop :=
  ∃ be bc cs, v5 = .pointer (some ⟨be, 0, none⟩) ∧ w.heap.size ≤ be ∧ w.heap.size ≤ bc ∧ Blk wx be cs 69 ∧ EndZ cs (.pointer none) (.pointer none) (.pointer none) (.pointer (some ⟨bc, 0, none⟩)) ∧ Blk wx bc #[.slice none 0 0] 84 ∧ Blk wx b #[.int .i64 k, .int .i64 r, .int .i64 s, .int .i64 wi, .int .i64 bu, .int .i64 q, .int .i64 qu, .int .i64 t, .int .i64 wo, .int .i64 ws, .int .i64 ti] 23 ∧ Below w.heap.size w wx
theorem new4_of (k r s wi bu q qu t wo ws ti : Int) (w : World) (b : Nat) {W4 : World} {m c l be : Nat} (hbe : be = W4.heap.size) (h2 : Blk W4 c #[.slice none 0 0] 84) (h3 : Blk W4 b #[.int .i64 k, .int .i64 r, .int .i64 s, .int .i64 wi, .int .i64 bu, .int .i64 q, .int .i64 qu, .int .i64 t, .int .i64 wo, .int .i64 ws, .int .i64 ti] 23) (hb : Below w.heap.size w W4) (h5 : w.heap.size ≤ c) : New4 k r s wi bu q qu t wo ws ti w b (.pointer (some ⟨be, 0, none⟩)) (W4.alloc (.cells (((((((((((((((Try.zeroCells69.setIfInBounds 0 (.int .i64 k)).setIfInBounds 1 (.int .i64 r)).setIfInBounds 2 (.int .i64 s)).setIfInBounds 3 (.int .i64 wi)).setIfInBounds 4 (.int .i64 bu)).setIfInBounds 5 (.int .i64 q)).setIfInBounds 6 (.int .i64 qu)).setIfInBounds 7 (.int .i64 t)).setIfInBounds 8 (.int .i64 wo)).setIfInBounds 9 (.int .i64 ws)).setIfInBounds 10 (.int .i64 ti))).setIfInBounds 270 (.map (some m))).setIfInBounds 273 (.pointer (some ⟨c, 0, none⟩))).setIfInBounds 274 (.pointer (some ⟨l, 0, none⟩))) 69)).drew := by
  subst hbe
  exact ⟨_, c, _, rfl, hb.size, h5, (Blk.new _ _ _).drew, endZ_new k r s wi bu q qu t wo ws ti m c l, (h2.alloc _).drew, (h3.alloc _).drew, (Below.trans hb ((Below.chainAlloc (Below.refl _ W4) _).mono hb.size)).drew⟩
theorem enew_yes (k r s wi bu q qu t wo ws ti : Int) (w : World) (h : chkB k r s wi bu q qu t wo ws ti = true) : Calls Try.prog 18 #[.agg #[.int .i64 k, .int .i64 r, .int .i64 s, .int .i64 wi, .int .i64 bu, .int .i64 q, .int .i64 qu, .int .i64 t, .int .i64 wo, .int .i64 ws, .int .i64 ti]] w fun e w' => ∃ be bt bj bc, e = .returned (.tuple #[.pointer (some ⟨be, 0, none⟩), .int .i64 0]) ∧ EndN w.heap.size w' be bt bj bc ∧ Below w.heap.size w w' := by
  have hv : chkV k r s wi bu q qu t wo ws ti = 0 := by unfold chkV; rw [h]; rfl
  have HC := Lib.hid (fun w' => check_any k r s wi bu q qu t wo ws ti w')
  rw [hv] at HC
  have hmm : ∀ (w : World), (Instr.makeMap 54 none).run Try.prog w = .ok (.map (some w.heap.size)) (w.alloc (.map #[] 0)) := fun _ => rfl
  have HQ : Hid ((1 ≤ qu ∧ qu ≤ 65536) ∧ (1 ≤ t ∧ t ≤ 65536) ∧ (1 ≤ wo ∧ wo ≤ 4096)) := Lib.hid (by
    unfold chkB ckA ckB ckC ckD at h
    simp only [Bool.and_eq_true, inB_iff] at h
    obtain ⟨⟨_, ⟨h1, h2⟩, h3⟩, _⟩ := h
    exact ⟨h1, h2, h3⟩)
  clear h hv
  go_enter Try.func18, Try.ntmps18
  go_wp2_with fail
  refine (HC.out _).mono ?_
  rintro e w1 ⟨rfl, hb1⟩
  have kk := (Blk.new w #[.int .i64 k, .int .i64 r, .int .i64 s, .int .i64 wi, .int .i64 bu, .int .i64 q, .int .i64 qu, .int .i64 t, .int .i64 wo, .int .i64 ws, .int .i64 ti] 23).below hb1 (Blk.new w #[.int .i64 k, .int .i64 r, .int .i64 s, .int .i64 wi, .int .i64 bu, .int .i64 q, .int .i64 qu, .int .i64 t, .int .i64 wo, .int .i64 ws, .int .i64 ti] 23).lt
  have HB1 : Hid (Below w.heap.size w w1) := Lib.hid (Below.chain hb1 (Below.chainAlloc (Below.refl _ w) _))
  have HK := Lib.hid kk
  obtain ⟨b, hb⟩ : ∃ b, w.heap.size = b := ⟨_, rfl⟩
  rw [hb] at kk HK ⊢
  clear hb1
  have k0 := kk.facts.1 0
  have k1 := kk.facts.1 1
  have k2 := kk.facts.1 2
  have k3 := kk.facts.1 3
  have k4 := kk.facts.1 4
  have k5 := kk.facts.1 5
  have k6 := kk.facts.1 6
  have k7 := kk.facts.1 7
  have k8 := kk.facts.1 8
  have k9 := kk.facts.1 9
  have k10 := kk.facts.1 10
  have hlt := kk.lt
  have hlt1 : b < w1.heap.size + 1 := by omega
  have hlt2 : b < w1.heap.size + 1 + 1 := by omega
  have hlt3 : b < w1.heap.size + 1 + 1 + 1 := by omega
  have HBS := Lib.hid hb
  clear hb
  go_upto_region 4 with fail
  go_cut [5] (fun v5 wx => Hid (New4 k r s wi bu q qu t wo ws ti w b v5 wx))
  case first =>
    go_region_law (first
      | (go_simp; go_at_call 21; refine (cnew0 _).mono ?_; rintro e w2 ⟨rfl, rfl⟩)
      | (go_simp; go_at_call 22; refine (clnew0 _).mono ?_; rintro e w3 ⟨rfl, rfl⟩))
    all_goals
      go_wp2_with fail
      go_meet
      refine Lib.hid (new4_of k r s wi bu q qu t wo ws ti w b ?_ ?_ ?_ ?_ ?_)
      rotate_left
      · repeat (first | exact Blk.newAt (by simp) | refine Blk.alloc ?_ _)
      · repeat (first | exact HK.out | exact HK.out.drew | refine Blk.alloc ?_ _)
      · repeat (first | exact HB1.out | exact HB1.out.drew | refine Below.chainAlloc ?_ _)
      · have := HB1.out.size; omega
      · simp
  case rest =>
    obtain ⟨be, bc, cs, rfl, hbe, hbc, he, hz, hc, hk, hbw⟩ := hcut.out
    obtain ⟨tn, rfl⟩ : ∃ n : Nat, t = (n : Int) := ⟨t.toNat, by have := HQ.out; omega⟩
    have hne := blk_ne he hc (by decide)
    have hne2 := blk_ne he hk (by decide)
    have k6 := hk.facts.1 6
    have HHE := Lib.hid (And.intro he (And.intro hz (And.intro hc (And.intro hk (And.intro hbw (And.intro hne (And.intro hne2 (And.intro hbe hbc))))))))
    clear hcut he hz hc hk hbw hne hne2 hbe hbc HC hmm HB1 HK kk hlt hlt1 hlt2 hlt3
    clear k0 k1 k2 k3 k4 k5 k7 k8 k9 k10
    go_wp2_with fail
    refine (dnew0 qu HQ.out.1.1 HQ.out.1.2 wc).mono ?_
    rintro e w2 ⟨rfl, hsz, hb2⟩
    have he2 := HHE.out.1.below hb2 HHE.out.1.lt
    have k7 := (HHE.out.2.2.2.1.below hb2 HHE.out.2.2.2.1.lt).facts.1 7
    have d268 := (he2.facts.1 268).trans HHE.out.2.1.c268
    have f268 := he2.facts.2.1 268
    have HE3 := Lib.hid (he2.setAt 268 (.pointer (some ⟨wc.heap.size, 0, none⟩)) rfl)
    have HZ3 := Lib.hid (HHE.out.2.1.set268 (v := .pointer (some ⟨wc.heap.size, 0, none⟩)))
    have HC3 := Lib.hid ((HHE.out.2.2.1.below hb2 HHE.out.2.2.1.lt).setOther ⟨be, 268, none⟩ (.pointer (some ⟨wc.heap.size, 0, none⟩)) HHE.out.2.2.2.2.2.1)
    have HK3 := Lib.hid ((HHE.out.2.2.2.1.below hb2 HHE.out.2.2.2.1.lt).setOther ⟨be, 268, none⟩ (.pointer (some ⟨wc.heap.size, 0, none⟩)) HHE.out.2.2.2.2.2.2.1)
    have HB3 := Lib.hid ((Below.chain hb2 HHE.out.2.2.2.2.1).setCell (p := ⟨be, 268, none⟩) HHE.out.2.2.2.2.2.2.2.1 (.pointer (some ⟨wc.heap.size, 0, none⟩)))
    clear he2 hb2 hsz k6
    go_upto_region 6 with fail
    clear d268 f268
    generalize wc.heap.size = bs at *
    generalize w2.setCell ⟨be, 268, none⟩ (.pointer (some ⟨bs, 0, none⟩)) = w3 at *
    generalize cs.setIfInBounds 268 (.pointer (some ⟨bs, 0, none⟩)) = cs3 at *
    have k7 := HK3.out.facts.1 7
    go_wp2_with fail
    refine (new_ok 8 tn w3 (by decide) (by decide) (by have := HQ.out; omega) (by have := HQ.out; omega)).mono ?_
    rintro e w4 ⟨rfl, ⟨s4, hs4⟩, hb4⟩
    have he4 := HE3.out.below hb4 HE3.out.lt
    have hk4 := HK3.out.below hb4 HK3.out.lt
    have d269 := (he4.facts.1 269).trans HZ3.out.c269
    have f269 := he4.facts.2.1 269
    have HT4 := Lib.hid hs4
    have HE5 := Lib.hid (he4.setAt 269 (.pointer (some ⟨w3.heap.size, 0, none⟩)) rfl)
    have HZ5 := Lib.hid (HZ3.out.set269 (v := .pointer (some ⟨w3.heap.size, 0, none⟩)))
    have HC5 := Lib.hid ((HC3.out.below hb4 HC3.out.lt).setOther ⟨be, 269, none⟩ (.pointer (some ⟨w3.heap.size, 0, none⟩)) HHE.out.2.2.2.2.2.1)
    have HK5 := Lib.hid (hk4.setOther ⟨be, 269, none⟩ (.pointer (some ⟨w3.heap.size, 0, none⟩)) HHE.out.2.2.2.2.2.2.1)
    have HB5 := Lib.hid ((Below.chain hb4 HB3.out).setCell (p := ⟨be, 269, none⟩) HHE.out.2.2.2.2.2.2.2.1 (.pointer (some ⟨w3.heap.size, 0, none⟩)))
    have HT5 := Lib.hid (HT4.out.other ((Only.refl [be] w4).setCell ⟨be, 269, none⟩ (.pointer (some ⟨w3.heap.size, 0, none⟩)) (.inl (by simp))) HE3.out.lt)
    have HLT3 := Lib.hid HE3.out.lt
    clear he4 hk4 hb4 k7 hs4 HE3 HZ3 HC3 HK3 HB3 HT4
    go_upto_region 7 with fail
    clear d269 f269
    generalize w3.heap.size = bt at *
    generalize w4.setCell ⟨be, 269, none⟩ (.pointer (some ⟨bt, 0, none⟩)) = w5 at *
    generalize cs3.setIfInBounds 269 (.pointer (some ⟨bt, 0, none⟩)) = cs5 at *
    have k8 := HK5.out.facts.1 8
    go_wp2_with fail
    refine (jnew0 wo w5 HQ.out.2.2.1 HQ.out.2.2.2).mono ?_
    rintro e w6 ⟨rfl, rfl⟩
    have ha6 := Below.chainAlloc (Below.refl _ w5) (.cells #[.slice none 0 0, .int .i64 wo, .bool false] 108)
    have he6 := HE5.out.below ha6 HE5.out.lt
    have d271 := (he6.facts.1 271).trans HZ5.out.c271
    have f271 := he6.facts.2.1 271
    have HE7 := Lib.hid (he6.setAt 271 (.pointer (some ⟨w5.heap.size, 0, none⟩)) rfl)
    have HZ7 := Lib.hid (HZ5.out.set271 (v := .pointer (some ⟨w5.heap.size, 0, none⟩)))
    have HJ7 := Lib.hid ((Blk.new w5 #[.slice none 0 0, .int .i64 wo, .bool false] 108).setOther ⟨be, 271, none⟩ (.pointer (some ⟨w5.heap.size, 0, none⟩)) (by have := HE5.out.lt; show w5.heap.size ≠ be; omega))
    have HC7 := Lib.hid ((HC5.out.below ha6 HC5.out.lt).setOther ⟨be, 271, none⟩ (.pointer (some ⟨w5.heap.size, 0, none⟩)) HHE.out.2.2.2.2.2.1)
    have HB7 := Lib.hid ((Below.chain ha6 HB5.out).setCell (p := ⟨be, 271, none⟩) HHE.out.2.2.2.2.2.2.2.1 (.pointer (some ⟨w5.heap.size, 0, none⟩)))
    have HT7 := Lib.hid ((HT5.out.chain ha6).other ((Only.refl [be] _).setCell ⟨be, 271, none⟩ (.pointer (some ⟨w5.heap.size, 0, none⟩)) (.inl (by simp))) HLT3.out)
    have HSZ : Hid (w.heap.size ≤ w5.heap.size ∧ w.heap.size ≤ bt) := Lib.hid ⟨HB5.out.size, by have := HLT3.out; have := HHE.out.2.2.2.2.2.2.2.1; omega⟩
    clear he6 ha6 k8
    go_wp2_with fail
    go_ret2
    exact ⟨be, bt, w5.heap.size, bc, rfl, ⟨⟨_, _, HE7.out, HZ7.out⟩, ⟨bt, tn, s4, HSZ.out.2, HT7.out⟩, ⟨wo, HJ7.out⟩, HC7.out, HHE.out.2.2.2.2.2.2.2.1, HSZ.out.1, HHE.out.2.2.2.2.2.2.2.2⟩, HB7.out⟩
end Go.Proofs.Yteepdknnmdhckaa
