/-
  The table: judge (chapter 18).
-/
import Derived.Test.YtnommofekjiiaaaTa8
namespace Go.Proofs.Ytnommofekjiiaaa
open Go Go.RowKit Go.MuLone
set_option linter.unusedVariables false
set_option linter.unusedSimpArgs false
set_option maxRecDepth 100000
set_option maxHeartbeats 2000000
/-- What an entry is to be: at least one shard, by rising index, no more than are needed. -/
structure EOk (e : TE) : Prop where
  a : 1 ≤ e.need
  b : e.need ≤ 32
  c : 0 < e.l.length
  d : (e.l.length : Int) ≤ e.need
  r : Rise e.l
theorem EntM.chain {w w' : World} {base : Nat} {e : TE} (h : EntM w base e) (hb : Below w.heap.size w w') : EntM w' base e := ⟨h.b.below hb h.b.lt, h.s.chain hb, h.lo⟩
theorem judge_done (e : TE) (base : Nat) (need : Int) (x : Sh) (w : World) (h : EntM w base e) (hd : e.need ≤ (e.l.length : Int)) :
    Calls Try.prog 36 #[ptr e.eb, .int .i64 need, shV x] w fun r w' => r = .returned (verd 1) ∧ Below w.heap.size w w' := by
  have HD : Hid (∀ w', Below w.heap.size w w' → Calls Try.prog 32 #[ptr e.eb] w' fun r w'' => r = .returned (.bool true) ∧ Below w'.heap.size w' w'') := Lib.hid fun w' hb => by
    have := done_any e base w' (h.chain hb)
    rw [decide_eq_true hd] at this
    exact this
  have hlt := h.b.lt
  clear h hd
  go_enter Try.func36, Try.ntmps36
  go_wp2_with fail
  refine (HD.out _ (Below.chainAlloc (Below.refl _ _) _)).mono ?_
  rintro r w1 ⟨rfl, hb⟩
  go_wp2_with fail
  go_ret
  exact ⟨rfl, Below.chain hb (Below.chainAlloc (Below.refl _ _) _)⟩
theorem judge_fin {e : TE} {base base2 : Nat} {w wq : World} {l : List Sh} {v : Value} (h : EntM w base e) (hb : Below w.heap.size w wq) (hs : ShS wq base2 v l) (hle : base ≤ base2) :
    EntM (wq.setCell ⟨e.eb, 1, none⟩ v) base { e with l := l, sv := v } ∧ Only [e.eb] w (wq.setCell ⟨e.eb, 1, none⟩ v) := by
  have hq := h.chain hb
  refine ⟨⟨hq.b.setAt 1 v rfl, (hs.le hle).setOther _ _ (fun g hg => ?_), hq.lo⟩, (Only.of_below hb).setCell _ _ (.inl (by simp))⟩
  rcases hs.2 with ⟨hv, _⟩ | ⟨g', off, cap, cur, hv, _, hh, _⟩
  · rw [hv] at hg; cases hg
  · rw [hv] at hg
    obtain rfl : g' = g := by simpa [Value.ownBlock] using hg
    rintro rfl
    have := hq.b
    unfold Blk at this
    rw [show wq.heap[e.eb]? = _ from hh] at this
    cases this
theorem judge_new (e : TE) (base : Nat) (x : Sh) (y : Sh) (w : World) (h : EntM w base e) (ok : EOk e) (hd : ¬ e.need ≤ (e.l.length : Int)) (hy : e.l[0]? = some y) (hyx : y.2.length = x.2.length) (hh : hitN x.1 e.l = false) (hb : base ≤ w.heap.size) (vn : Nat) (hvn : vn = if e.need ≤ (e.l.length : Int) + 1 then 3 else 0) :
    Calls Try.prog 36 #[ptr e.eb, .int .i64 e.need, shV x] w fun r w' => r = .returned (verd vn) ∧ ∃ sv', EntM w' base { e with l := insL e.l (lowN x.1 e.l) x, sv := sv' } ∧ Only [e.eb] w w' := by
  have HVN := Lib.hid hvn
  clear hvn
  have HD : Hid (∀ w', Below w.heap.size w w' → Calls Try.prog 32 #[ptr e.eb] w' fun r w'' => r = .returned (.bool false) ∧ Below w'.heap.size w' w'') := Lib.hid fun w' hb => by
    have := done_any e base w' (h.chain hb)
    rw [decide_eq_false hd] at this
    exact this
  have hlt := h.b.lt
  obtain ⟨g, off, cap, hv, hg0, hgw, hcap⟩ := h.s.shape ok.c
  have HE := Lib.hid h
  have HBASE := Lib.hid hb
  have HOK := Lib.hid ok
  have hbx := Blk.new w #[.int .i64 x.1, Str x.2] 32
  have hb0 := Below.chainAlloc (Below.refl _ w) (.cells #[.int .i64 x.1, Str x.2] 32)
  have HB0 := Lib.hid hb0
  have HBX := Lib.hid hbx
  have HYX := Lib.hid hyx
  have HBS : Hid (∀ w', Below (w.alloc (.cells #[.int .i64 x.1, Str x.2] 32)).heap.size (w.alloc (.cells #[.int .i64 x.1, Str x.2] 32)) w' → Calls Try.prog 46 #[e.sv, .int .i64 x.1, .func (.func 47) #[] #[]] w' fun r w'' => r = .returned (.tuple #[.int .i64 (lowN x.1 e.l : Nat), .bool false]) ∧ Below w'.heap.size w' w'') := Lib.hid fun w' hb' => by
    have h1 := (h.chain (Below.chain hb' hb0)).s
    have := bsearch base e.sv e.l x.1 w' h1 ok.r (by have := ok.d; have := ok.b; omega)
    rw [hh] at this
    exact this
  clear h ok hd hyx hh hb0 hbx
  go_enter Try.func36, Try.ntmps36
  go_wp2_with fail
  generalize hW0 : w.alloc (.cells #[.int .i64 x.1, Str x.2] 32) = W0 at *
  generalize hbxn : w.heap.size = bx at *
  rw [hv] at HBS
  have HMK : Hid (∀ w', Below W0.heap.size W0 w' → (w'.cell? ⟨e.eb, 0, none⟩ = some (.int .i64 e.need) ∧ w'.cell? ⟨e.eb, 1, none⟩ = some (.slice (some ⟨g, off, none⟩) e.l.length cap) ∧ w'.cell? ⟨bx, 0, none⟩ = some (.int .i64 x.1) ∧ w'.cell? ⟨bx, 1, none⟩ = some (Str x.2) ∧ w'.cell? ⟨g, off, none⟩ = some (.int .i64 y.1) ∧ w'.cell? ⟨g, off + 1, none⟩ = some (Str y.2)) ∧ Below W0.heap.size W0 w' ∧ w'.frozen? ⟨e.eb, 1, none⟩ = false) := Lib.hid fun w' hb' => by
    have hbw : Below w.heap.size w w' := Below.chain hb' (by rw [hbxn]; exact HB0.out)
    have hm := HE.out.chain hbw
    have c0 := hm.b.facts.1 0
    have c1 := hm.b.facts.1 1
    rw [show entC e = #[.int .i64 e.need, e.sv, .int .i64 (e.made : Int)] from rfl, hv] at c0 c1
    have hsg : Seg w' base 32 2 (.slice (some ⟨g, off, none⟩) e.l.length cap) e.l.length (shC e.l) := by
      have := hm.s
      rw [hv] at this
      exact this
    obtain ⟨s0, s1⟩ := ShS.cell hsg 0 y hy
    rw [Nat.zero_mul, Nat.add_zero] at s0 s1
    exact ⟨⟨c0, c1, (HBX.out.below hb' HBX.out.lt).facts.1 0, (HBX.out.below hb' HBX.out.lt).facts.1 1, s0, s1⟩, hb', hm.b.facts.2.1 1⟩
  refine (HD.out _ HB0.out).mono ?_
  rintro r w1 ⟨rfl, hb1⟩
  have HB1 := Lib.hid hb1
  obtain ⟨⟨c0, c1, k0, k1, s0, s1⟩, _⟩ := HMK.out w1 hb1
  have hl0 : (0 : Int) < (e.l.length : Int) := by have := HOK.out.c; omega
  have hyx' : (y.2.length : Int) = (x.2.length : Int) := by have := HYX.out; omega
  clear hb1
  go_wp2_with fail
  go_region
  go_wp2_with fail
  clear c0 c1 k0 k1 s0 s1
  go_region_held3 (fun w' => (w'.cell? ⟨e.eb, 0, none⟩ = some (.int .i64 e.need) ∧ w'.cell? ⟨e.eb, 1, none⟩ = some (.slice (some ⟨g, off, none⟩) e.l.length cap) ∧ w'.cell? ⟨bx, 0, none⟩ = some (.int .i64 x.1) ∧ w'.cell? ⟨bx, 1, none⟩ = some (Str x.2) ∧ w'.cell? ⟨g, off, none⟩ = some (.int .i64 y.1) ∧ w'.cell? ⟨g, off + 1, none⟩ = some (Str y.2)) ∧ Below W0.heap.size W0 w')
    (first
      | exact ⟨(HMK.out _ HB1.out.drew.drew).1, HB1.out.drew.drew⟩
      | exact ⟨(HMK.out _ HB1.out.drew).1, HB1.out.drew⟩
      | (go_split_ands; exact ⟨(HMK.out _ (Below.chain hb (by assumption))).1, Below.chain hb (by assumption)⟩))
    ((first
      | (go_at_call 46; refine (HBS.out _ (by (go_split_ands; assumption))).mono ?_; rintro e wy ⟨rfl, hb⟩)))
  have HBY : Hid (Below W0.heap.size W0 wy) := Lib.hid (Below.chain hb HB1.out.drew.drew)
  obtain ⟨⟨c0, c1, k0, k1, s0, s1⟩, _⟩ := HMK.out wy HBY.out
  clear hb s0 s1
  go_wp2_with fail
  go_region
  have HB2 : Hid (Below W0.heap.size W0 wy.drew.drew) := Lib.hid HBY.out.drew.drew
  have HLE : Hid (base ≤ wy.heap.size) := Lib.hid (by have := HBY.out.size; have := HB0.out.size; have := HBASE.out; omega)
  have HLEN : Hid (e.l.length ≤ 1000) := Lib.hid (by have := HOK.out.d; have := HOK.out.b; omega)
  have HLOW : Hid (lowN x.1 e.l ≤ e.l.length) := Lib.hid (lowN_le _ _)
  have HCL : Hid (∀ w', Below W0.heap.size W0 w' → Calls Try.prog 50 #[.slice (some ⟨g, off, none⟩) e.l.length cap] w' fun r w'' => ∃ g off cap, r = .returned (.slice (some ⟨g, off, none⟩) e.l.length cap) ∧ ShS w'' w'.heap.size (.slice (some ⟨g, off, none⟩) e.l.length cap) e.l ∧ Below w'.heap.size w' w'' ∧ w'.heap.size < w''.heap.size) := Lib.hid fun w' hb' => by
    have h1 := (HE.out.chain (Below.chain hb' (by rw [hbxn]; exact HB0.out))).s
    rw [hv] at h1
    exact clone18 base _ e.l w' h1 HOK.out.c HLEN.out
  have hlt2 : e.eb < wy.heap.size := by have := HBY.out.size; have := HB0.out.size; have := HBX.out.lt; omega
  have hbx2 : bx < wy.heap.size := by have := HBY.out.size; have := HBX.out.lt; omega
  go_upto_region 10 with fail
  go_cut [0] (fun v0 wx => v0 = ptr e.eb ∧ Hid (∃ sv', EntM wx base { e with l := insL e.l (lowN x.1 e.l) x, sv := sv' } ∧ Only [e.eb] w wx))
  case first =>
    go_region_law (first
      | (go_simp; go_at_call 50; refine (HCL.out _ (by first | exact HB2.out | exact Below.chainAlloc HB2.out _)).mono ?_; rintro r wz ⟨g1, off1, cap1, rfl, hs1, hbz, hltz⟩; have HS1 := Lib.hid hs1; have HBZ := Lib.hid hbz; have HZZ := Lib.hid (by first | exact Below.chain hbz HB2.out | exact Below.chain hbz (Below.chainAlloc HB2.out _) : Below W0.heap.size W0 wz); have q0 := (HMK.out _ HZZ.out).1.2.2.1; have q1 := (HMK.out _ HZZ.out).1.2.2.2.1; clear hs1 hbz hltz)
      | (go_simp; go_at_call 49; (with_reducible show Calls _ _ _ wz _); have hg1 : (wy.alloc (.cells #[.int .i64 x.1, Str x.2] 32)).heap.size ≤ g1 := (Seg.capOf HS1.out).2.2.1; rw [size_alloc] at hg1; have hle : base ≤ (wy.alloc (.cells #[.int .i64 x.1, Str x.2] 32)).heap.size := (by rw [size_alloc]; exact Nat.le_succ_of_le HLE.out); have hbv : Blk wz wy.heap.size #[.int .i64 x.1, Str x.2] 32 := (Blk.new wy.drew.drew #[.int .i64 x.1, Str x.2] 32).below HBZ.out (Blk.new wy.drew.drew _ _).lt; have hI := insert18 _ e.l _ x g1 off1 cap1 wy.heap.size wz HS1.out HLOW.out HLEN.out HBZ.out.size hbv (by omega); refine hI.mono ?_; clear hI hbv; rintro r wq ⟨g2, off2, cap2, rfl, hs2, ho2⟩; have HQ : Hid (∃ b2, ShS wq b2 (.slice (some ⟨g2, off2, none⟩) (e.l.length + 1) cap2) (insL e.l (lowN x.1 e.l) x) ∧ base ≤ b2 ∧ Below W0.heap.size W0 wq) := Lib.hid ⟨_, hs2, hle, Below.only (by first | exact HZZ.out | exact Below.chainAlloc HZZ.out _) ho2 (fun y hy => by rw [List.mem_singleton.1 hy]; have h1 := HBY.out.size; omega)⟩; have p1 := (HMK.out wq (by obtain ⟨_, _, _, h⟩ := HQ.out; exact h)).1.2.1; have p2 := (HMK.out wq (by obtain ⟨_, _, _, h⟩ := HQ.out; exact h)).2.2; clear hs2 ho2 hg1 hle)
      | (go_simp; go_at_call 49; (with_reducible show Calls _ _ _ (World.alloc wz _) _); have hg1 : wy.heap.size ≤ g1 := (Seg.capOf HS1.out).2.2.1; have hle := HLE.out; have hI := insert18 _ e.l _ x g1 off1 cap1 wz.heap.size (wz.alloc (.cells #[.int .i64 x.1, Str x.2] 32)) (HS1.out.alloc _) HLOW.out HLEN.out (by have := HBZ.out.size; rw [size_alloc]; omega) (Blk.new _ _ _) (by have := (Seg.capOf HS1.out).2.2.2; omega); refine hI.mono ?_; clear hI; rintro r wq ⟨g2, off2, cap2, rfl, hs2, ho2⟩; have HQ : Hid (∃ b2, ShS wq b2 (.slice (some ⟨g2, off2, none⟩) (e.l.length + 1) cap2) (insL e.l (lowN x.1 e.l) x) ∧ base ≤ b2 ∧ Below W0.heap.size W0 wq) := Lib.hid ⟨_, hs2, hle, Below.only (by first | exact HZZ.out | exact Below.chainAlloc HZZ.out _) ho2 (fun y hy => by rw [List.mem_singleton.1 hy]; have h1 := HBY.out.size; omega)⟩; have p1 := (HMK.out wq (by obtain ⟨_, _, _, h⟩ := HQ.out; exact h)).1.2.1; have p2 := (HMK.out wq (by obtain ⟨_, _, _, h⟩ := HQ.out; exact h)).2.2; clear hs2 ho2 hg1 hle))
    all_goals
      go_wp2_with fail
      go_meet
      refine ⟨rfl, Lib.hid ?_⟩
      obtain ⟨b2, hs2, hle, hbq⟩ := HQ.out
      obtain ⟨hf1, hf2⟩ := judge_fin HE.out (Below.chain hbq (by rw [hbxn]; exact HB0.out)) hs2 hle
      exact ⟨_, hf1, hf2⟩
  case rest =>
    obtain ⟨rfl, HDD⟩ := hcut
    obtain ⟨sv', hm', ho'⟩ := HDD.out
    have HD2 := Lib.hid (done_any _ base wc hm')
    have HR := Lib.hid (And.intro hm' ho')
    have hln : ((insL e.l (lowN x.1 e.l) x).length : Int) = (e.l.length : Int) + 1 := by rw [insL_length _ _ _ HLOW.out]; omega
    rw [hln] at HD2
    clear hm' ho' HDD hln c0 c1 k0 k1
    by_cases hr : e.need ≤ (e.l.length : Int) + 1
    · rw [decide_eq_true hr] at HD2
      have HRR := Lib.hid hr
      clear hr
      go_wp2_with fail
      refine HD2.out.mono ?_
      rintro r w9 ⟨rfl, hb9⟩
      go_wp2_with fail
      go_ret
      have hv9 : vn = 3 := by rw [HVN.out, if_pos HRR.out]
      subst hv9
      exact ⟨rfl, sv', HR.out.1.chain hb9, HR.out.2.trans (Only.of_below hb9)⟩
    · rw [decide_eq_false hr] at HD2
      have HRR := Lib.hid hr
      clear hr
      go_wp2_with fail
      refine HD2.out.mono ?_
      rintro r w9 ⟨rfl, hb9⟩
      go_wp2_with fail
      go_ret
      have hv9 : vn = 0 := by rw [HVN.out, if_neg (Int.not_le.2 HRR.out)]
      subst hv9
      exact ⟨rfl, sv', HR.out.1.chain hb9, HR.out.2.trans (Only.of_below hb9)⟩
end Go.Proofs.Ytnommofekjiiaaa
