/-
  The table: judge, what it refuses (chapter 18).
-/
import Derived.Test.YtnommofekjiiaaaTa9
namespace Go.Proofs.Ytnommofekjiiaaa
open Go Go.RowKit Go.MuLone
set_option linter.unusedVariables false
set_option linter.unusedSimpArgs false
set_option maxRecDepth 100000
set_option maxHeartbeats 2000000
theorem judge_need (e : TE) (base : Nat) (need : Int) (x : Sh) (y : Sh) (w : World) (h : EntM w base e) (ok : EOk e) (hd : ¬ e.need ≤ (e.l.length : Int)) (hy : e.l[0]? = some y) (hb : base ≤ w.heap.size) (hne : ¬ e.need = need) :
    Calls Try.prog 36 #[ptr e.eb, .int .i64 need, shV x] w fun r w' => r = .returned (verd 4) ∧ Below w.heap.size w w' := by
  have HD : Hid (∀ w', Below w.heap.size w w' → Calls Try.prog 32 #[ptr e.eb] w' fun r w'' => r = .returned (.bool false) ∧ Below w'.heap.size w' w'') := Lib.hid fun w' hb => by
    have := done_any e base w' (h.chain hb)
    rw [decide_eq_false hd] at this
    exact this
  have hlt := h.b.lt
  obtain ⟨g, off, cap, hv, hg0, hgw, hcap⟩ := h.s.shape ok.c
  have HE := Lib.hid h
  have HBASE := Lib.hid hb
  have HOK := Lib.hid ok
  have hbx := Blk.new w #[.int .i64 x.1, Str x.2] 32
  have hb0 := Below.chainAlloc (Below.refl _ w) (.cells #[.int .i64 x.1, Str x.2] 32)
  have HB0 := Lib.hid hb0
  have HBX := Lib.hid hbx
  clear h ok hd hb0 hbx
  go_enter Try.func36, Try.ntmps36
  go_wp2_with fail
  generalize hW0 : w.alloc (.cells #[.int .i64 x.1, Str x.2] 32) = W0 at *
  generalize hbxn : w.heap.size = bx at *
  have HMK : Hid (∀ w', Below W0.heap.size W0 w' → (w'.cell? ⟨e.eb, 0, none⟩ = some (.int .i64 e.need) ∧ w'.cell? ⟨e.eb, 1, none⟩ = some (.slice (some ⟨g, off, none⟩) e.l.length cap) ∧ w'.cell? ⟨bx, 0, none⟩ = some (.int .i64 x.1) ∧ w'.cell? ⟨bx, 1, none⟩ = some (Str x.2) ∧ w'.cell? ⟨g, off, none⟩ = some (.int .i64 y.1) ∧ w'.cell? ⟨g, off + 1, none⟩ = some (Str y.2)) ∧ Below W0.heap.size W0 w' ∧ w'.frozen? ⟨e.eb, 1, none⟩ = false) := Lib.hid fun w' hb' => by
    have hbw : Below w.heap.size w w' := Below.chain hb' (by rw [hbxn]; exact HB0.out)
    have hm := HE.out.chain hbw
    have c0 := hm.b.facts.1 0
    have c1 := hm.b.facts.1 1
    rw [show entC e = #[.int .i64 e.need, e.sv, .int .i64 (e.made : Int)] from rfl, hv] at c0 c1
    have hsg : Seg w' base 32 2 (.slice (some ⟨g, off, none⟩) e.l.length cap) e.l.length (shC e.l) := by
      have := hm.s
      rw [hv] at this
      exact this
    obtain ⟨s0, s1⟩ := ShS.cell hsg 0 y hy
    rw [Nat.zero_mul, Nat.add_zero] at s0 s1
    exact ⟨⟨c0, c1, (HBX.out.below hb' HBX.out.lt).facts.1 0, (HBX.out.below hb' HBX.out.lt).facts.1 1, s0, s1⟩, hb', hm.b.facts.2.1 1⟩
  have hnb : (e.need != need) = true := by simp [hne]
  refine (HD.out _ HB0.out).mono ?_
  rintro r w1 ⟨rfl, hb1⟩
  have HB1 := Lib.hid hb1
  obtain ⟨⟨c0, c1, k0, k1, s0, s1⟩, _⟩ := HMK.out w1 hb1
  have hl0 : (0 : Int) < (e.l.length : Int) := by have := HOK.out.c; omega
  clear hb1
  go_wp2_with fail
  go_region
  go_wp2_with fail
  go_ret
  exact ⟨rfl, Below.chain HB1.out.drew (by rw [hbxn]; exact HB0.out)⟩
theorem judge_len (e : TE) (base : Nat) (need : Int) (x : Sh) (y : Sh) (w : World) (h : EntM w base e) (ok : EOk e) (hd : ¬ e.need ≤ (e.l.length : Int)) (hy : e.l[0]? = some y) (hb : base ≤ w.heap.size) (hne : e.need = need) (hyx : ¬ y.2.length = x.2.length) :
    Calls Try.prog 36 #[ptr e.eb, .int .i64 need, shV x] w fun r w' => r = .returned (verd 4) ∧ Below w.heap.size w w' := by
  subst hne
  have HD : Hid (∀ w', Below w.heap.size w w' → Calls Try.prog 32 #[ptr e.eb] w' fun r w'' => r = .returned (.bool false) ∧ Below w'.heap.size w' w'') := Lib.hid fun w' hb => by
    have := done_any e base w' (h.chain hb)
    rw [decide_eq_false hd] at this
    exact this
  have hlt := h.b.lt
  obtain ⟨g, off, cap, hv, hg0, hgw, hcap⟩ := h.s.shape ok.c
  have HE := Lib.hid h
  have HBASE := Lib.hid hb
  have HOK := Lib.hid ok
  have hbx := Blk.new w #[.int .i64 x.1, Str x.2] 32
  have hb0 := Below.chainAlloc (Below.refl _ w) (.cells #[.int .i64 x.1, Str x.2] 32)
  have HB0 := Lib.hid hb0
  have HBX := Lib.hid hbx
  have HYX := Lib.hid hyx
  clear h ok hd hyx hb0 hbx
  go_enter Try.func36, Try.ntmps36
  go_wp2_with fail
  generalize hW0 : w.alloc (.cells #[.int .i64 x.1, Str x.2] 32) = W0 at *
  generalize hbxn : w.heap.size = bx at *
  have HMK : Hid (∀ w', Below W0.heap.size W0 w' → (w'.cell? ⟨e.eb, 0, none⟩ = some (.int .i64 e.need) ∧ w'.cell? ⟨e.eb, 1, none⟩ = some (.slice (some ⟨g, off, none⟩) e.l.length cap) ∧ w'.cell? ⟨bx, 0, none⟩ = some (.int .i64 x.1) ∧ w'.cell? ⟨bx, 1, none⟩ = some (Str x.2) ∧ w'.cell? ⟨g, off, none⟩ = some (.int .i64 y.1) ∧ w'.cell? ⟨g, off + 1, none⟩ = some (Str y.2)) ∧ Below W0.heap.size W0 w' ∧ w'.frozen? ⟨e.eb, 1, none⟩ = false) := Lib.hid fun w' hb' => by
    have hbw : Below w.heap.size w w' := Below.chain hb' (by rw [hbxn]; exact HB0.out)
    have hm := HE.out.chain hbw
    have c0 := hm.b.facts.1 0
    have c1 := hm.b.facts.1 1
    rw [show entC e = #[.int .i64 e.need, e.sv, .int .i64 (e.made : Int)] from rfl, hv] at c0 c1
    have hsg : Seg w' base 32 2 (.slice (some ⟨g, off, none⟩) e.l.length cap) e.l.length (shC e.l) := by
      have := hm.s
      rw [hv] at this
      exact this
    obtain ⟨s0, s1⟩ := ShS.cell hsg 0 y hy
    rw [Nat.zero_mul, Nat.add_zero] at s0 s1
    exact ⟨⟨c0, c1, (HBX.out.below hb' HBX.out.lt).facts.1 0, (HBX.out.below hb' HBX.out.lt).facts.1 1, s0, s1⟩, hb', hm.b.facts.2.1 1⟩
  refine (HD.out _ HB0.out).mono ?_
  rintro r w1 ⟨rfl, hb1⟩
  have HB1 := Lib.hid hb1
  obtain ⟨⟨c0, c1, k0, k1, s0, s1⟩, _⟩ := HMK.out w1 hb1
  have hl0 : (0 : Int) < (e.l.length : Int) := by have := HOK.out.c; omega
  have hyx' : ¬ (y.2.length : Int) = (x.2.length : Int) := by have := HYX.out; omega
  have hyb : ((y.2.length : Int) != (x.2.length : Int)) = true := bne_iff_ne.2 hyx'
  clear hb1
  go_wp2_with fail
  go_region
  go_wp2_with fail
  go_ret
  exact ⟨rfl, Below.chain HB1.out.drew (by rw [hbxn]; exact HB0.out)⟩
theorem judge_same (e : TE) (base : Nat) (need : Int) (x : Sh) (y : Sh) (w : World) (h : EntM w base e) (ok : EOk e) (hd : ¬ e.need ≤ (e.l.length : Int)) (hy : e.l[0]? = some y) (hb : base ≤ w.heap.size) (hne : e.need = need) (hyx : y.2.length = x.2.length) (hh : hitN x.1 e.l = true) (hsame : e.l[lowN x.1 e.l]? = some (x.1, x.2)) :
    Calls Try.prog 36 #[ptr e.eb, .int .i64 need, shV x] w fun r w' => r = .returned (verd 1) ∧ Below w.heap.size w w' := by
  subst hne
  have HD : Hid (∀ w', Below w.heap.size w w' → Calls Try.prog 32 #[ptr e.eb] w' fun r w'' => r = .returned (.bool false) ∧ Below w'.heap.size w' w'') := Lib.hid fun w' hb => by
    have := done_any e base w' (h.chain hb)
    rw [decide_eq_false hd] at this
    exact this
  have hlt := h.b.lt
  obtain ⟨g, off, cap, hv, hg0, hgw, hcap⟩ := h.s.shape ok.c
  obtain ⟨z, hz, hzx⟩ : ∃ z, e.l[lowN x.1 e.l]? = some z ∧ z.1 = x.1 := by
    unfold hitN at hh
    cases hq : e.l[lowN x.1 e.l]? with
    | none => rw [hq] at hh; cases hh
    | some z => rw [hq] at hh; exact ⟨z, rfl, of_decide_eq_true hh⟩
  have HE := Lib.hid h
  have HBASE := Lib.hid hb
  have HOK := Lib.hid ok
  have hbx := Blk.new w #[.int .i64 x.1, Str x.2] 32
  have hb0 := Below.chainAlloc (Below.refl _ w) (.cells #[.int .i64 x.1, Str x.2] 32)
  have HB0 := Lib.hid hb0
  have HBX := Lib.hid hbx
  have HYX := Lib.hid hyx
  have HBS : Hid (∀ w', Below (w.alloc (.cells #[.int .i64 x.1, Str x.2] 32)).heap.size (w.alloc (.cells #[.int .i64 x.1, Str x.2] 32)) w' → Calls Try.prog 46 #[e.sv, .int .i64 x.1, .func (.func 47) #[] #[]] w' fun r w'' => r = .returned (.tuple #[.int .i64 (lowN x.1 e.l : Nat), .bool true]) ∧ Below w'.heap.size w' w'') := Lib.hid fun w' hb' => by
    have h1 := (h.chain (Below.chain hb' hb0)).s
    have := bsearch base e.sv e.l x.1 w' h1 ok.r (by have := ok.d; have := ok.b; omega)
    rw [hh] at this
    exact this
  clear h ok hd hyx hh hb0 hbx
  go_enter Try.func36, Try.ntmps36
  go_wp2_with fail
  generalize hW0 : w.alloc (.cells #[.int .i64 x.1, Str x.2] 32) = W0 at *
  generalize hbxn : w.heap.size = bx at *
  rw [hv] at HBS
  have HMK : Hid (∀ w', Below W0.heap.size W0 w' → (w'.cell? ⟨e.eb, 0, none⟩ = some (.int .i64 e.need) ∧ w'.cell? ⟨e.eb, 1, none⟩ = some (.slice (some ⟨g, off, none⟩) e.l.length cap) ∧ w'.cell? ⟨bx, 0, none⟩ = some (.int .i64 x.1) ∧ w'.cell? ⟨bx, 1, none⟩ = some (Str x.2) ∧ w'.cell? ⟨g, off, none⟩ = some (.int .i64 y.1) ∧ w'.cell? ⟨g, off + 1, none⟩ = some (Str y.2)) ∧ Below W0.heap.size W0 w' ∧ w'.frozen? ⟨e.eb, 1, none⟩ = false) := Lib.hid fun w' hb' => by
    have hbw : Below w.heap.size w w' := Below.chain hb' (by rw [hbxn]; exact HB0.out)
    have hm := HE.out.chain hbw
    have c0 := hm.b.facts.1 0
    have c1 := hm.b.facts.1 1
    rw [show entC e = #[.int .i64 e.need, e.sv, .int .i64 (e.made : Int)] from rfl, hv] at c0 c1
    have hsg : Seg w' base 32 2 (.slice (some ⟨g, off, none⟩) e.l.length cap) e.l.length (shC e.l) := by
      have := hm.s
      rw [hv] at this
      exact this
    obtain ⟨s0, s1⟩ := ShS.cell hsg 0 y hy
    rw [Nat.zero_mul, Nat.add_zero] at s0 s1
    exact ⟨⟨c0, c1, (HBX.out.below hb' HBX.out.lt).facts.1 0, (HBX.out.below hb' HBX.out.lt).facts.1 1, s0, s1⟩, hb', hm.b.facts.2.1 1⟩
  refine (HD.out _ HB0.out).mono ?_
  rintro r w1 ⟨rfl, hb1⟩
  have HB1 := Lib.hid hb1
  obtain ⟨⟨c0, c1, k0, k1, s0, s1⟩, _⟩ := HMK.out w1 hb1
  have hl0 : (0 : Int) < (e.l.length : Int) := by have := HOK.out.c; omega
  have hyx' : (y.2.length : Int) = (x.2.length : Int) := by have := HYX.out; omega
  clear hb1
  go_wp2_with fail
  go_region
  go_wp2_with fail
  clear c0 c1 k0 k1 s0 s1
  go_region_held3 (fun w' => (w'.cell? ⟨e.eb, 0, none⟩ = some (.int .i64 e.need) ∧ w'.cell? ⟨e.eb, 1, none⟩ = some (.slice (some ⟨g, off, none⟩) e.l.length cap) ∧ w'.cell? ⟨bx, 0, none⟩ = some (.int .i64 x.1) ∧ w'.cell? ⟨bx, 1, none⟩ = some (Str x.2) ∧ w'.cell? ⟨g, off, none⟩ = some (.int .i64 y.1) ∧ w'.cell? ⟨g, off + 1, none⟩ = some (Str y.2)) ∧ Below W0.heap.size W0 w')
    (first
      | exact ⟨(HMK.out _ HB1.out.drew.drew).1, HB1.out.drew.drew⟩
      | exact ⟨(HMK.out _ HB1.out.drew).1, HB1.out.drew⟩
      | (go_split_ands; exact ⟨(HMK.out _ (Below.chain hb (by assumption))).1, Below.chain hb (by assumption)⟩))
    ((first
      | (go_at_call 46; refine (HBS.out _ (by (go_split_ands; assumption))).mono ?_; rintro e wy ⟨rfl, hb⟩)))
  have HBY : Hid (Below W0.heap.size W0 wy) := Lib.hid (Below.chain hb HB1.out.drew.drew)
  obtain ⟨⟨c0, c1, k0, k1, s0, s1⟩, _⟩ := HMK.out wy HBY.out
  clear hb s0 s1
  go_wp2_with fail
  have hlow : lowN x.1 e.l < e.l.length := (List.getElem?_eq_some_iff.1 hz).1
  have hzb : ∃ z2, wy.cell? ⟨g, off + lowN x.1 e.l * 2 + 1, none⟩ = some (Str z2) ∧ z2 = z.2 := by
    have hm := HE.out.chain (Below.chain HBY.out (by rw [hbxn]; exact HB0.out))
    have hsg : Seg wy base 32 2 (.slice (some ⟨g, off, none⟩) e.l.length cap) e.l.length (shC e.l) := by
      have := hm.s
      rw [hv] at this
      exact this
    exact ⟨z.2, (ShS.cell hsg _ z hz).2, rfl⟩
  obtain ⟨z2, cz, hz2⟩ := hzb
  have hlow' : (lowN x.1 e.l : Int) < (e.l.length : Int) := by omega
  have hzz : z = (x.1, x.2) := by rw [hz] at hsame; exact Option.some.inj hsame
  have hz3 : z2 = x.2 := by rw [hz2, hzz]
  subst hz3
  clear hz hz2 hsame hzx hlow
  go_region
  go_wp2_with fail
  go_ret
  exact ⟨rfl, Below.chain HBY.out.drew (by rw [hbxn]; exact HB0.out)⟩
theorem judge_other (e : TE) (base : Nat) (need : Int) (x : Sh) (y : Sh) (w : World) (h : EntM w base e) (ok : EOk e) (hd : ¬ e.need ≤ (e.l.length : Int)) (hy : e.l[0]? = some y) (hb : base ≤ w.heap.size) (hne : e.need = need) (hyx : y.2.length = x.2.length) (hh : hitN x.1 e.l = true) (hsame : ¬ e.l[lowN x.1 e.l]? = some (x.1, x.2)) :
    Calls Try.prog 36 #[ptr e.eb, .int .i64 need, shV x] w fun r w' => r = .returned (verd 4) ∧ Below w.heap.size w w' := by
  subst hne
  have HD : Hid (∀ w', Below w.heap.size w w' → Calls Try.prog 32 #[ptr e.eb] w' fun r w'' => r = .returned (.bool false) ∧ Below w'.heap.size w' w'') := Lib.hid fun w' hb => by
    have := done_any e base w' (h.chain hb)
    rw [decide_eq_false hd] at this
    exact this
  have hlt := h.b.lt
  obtain ⟨g, off, cap, hv, hg0, hgw, hcap⟩ := h.s.shape ok.c
  obtain ⟨z, hz, hzx⟩ : ∃ z, e.l[lowN x.1 e.l]? = some z ∧ z.1 = x.1 := by
    unfold hitN at hh
    cases hq : e.l[lowN x.1 e.l]? with
    | none => rw [hq] at hh; cases hh
    | some z => rw [hq] at hh; exact ⟨z, rfl, of_decide_eq_true hh⟩
  have HE := Lib.hid h
  have HBASE := Lib.hid hb
  have HOK := Lib.hid ok
  have hbx := Blk.new w #[.int .i64 x.1, Str x.2] 32
  have hb0 := Below.chainAlloc (Below.refl _ w) (.cells #[.int .i64 x.1, Str x.2] 32)
  have HB0 := Lib.hid hb0
  have HBX := Lib.hid hbx
  have HYX := Lib.hid hyx
  have HBS : Hid (∀ w', Below (w.alloc (.cells #[.int .i64 x.1, Str x.2] 32)).heap.size (w.alloc (.cells #[.int .i64 x.1, Str x.2] 32)) w' → Calls Try.prog 46 #[e.sv, .int .i64 x.1, .func (.func 47) #[] #[]] w' fun r w'' => r = .returned (.tuple #[.int .i64 (lowN x.1 e.l : Nat), .bool true]) ∧ Below w'.heap.size w' w'') := Lib.hid fun w' hb' => by
    have h1 := (h.chain (Below.chain hb' hb0)).s
    have := bsearch base e.sv e.l x.1 w' h1 ok.r (by have := ok.d; have := ok.b; omega)
    rw [hh] at this
    exact this
  clear h ok hd hyx hh hb0 hbx
  go_enter Try.func36, Try.ntmps36
  go_wp2_with fail
  generalize hW0 : w.alloc (.cells #[.int .i64 x.1, Str x.2] 32) = W0 at *
  generalize hbxn : w.heap.size = bx at *
  rw [hv] at HBS
  have HMK : Hid (∀ w', Below W0.heap.size W0 w' → (w'.cell? ⟨e.eb, 0, none⟩ = some (.int .i64 e.need) ∧ w'.cell? ⟨e.eb, 1, none⟩ = some (.slice (some ⟨g, off, none⟩) e.l.length cap) ∧ w'.cell? ⟨bx, 0, none⟩ = some (.int .i64 x.1) ∧ w'.cell? ⟨bx, 1, none⟩ = some (Str x.2) ∧ w'.cell? ⟨g, off, none⟩ = some (.int .i64 y.1) ∧ w'.cell? ⟨g, off + 1, none⟩ = some (Str y.2)) ∧ Below W0.heap.size W0 w' ∧ w'.frozen? ⟨e.eb, 1, none⟩ = false) := Lib.hid fun w' hb' => by
    have hbw : Below w.heap.size w w' := Below.chain hb' (by rw [hbxn]; exact HB0.out)
    have hm := HE.out.chain hbw
    have c0 := hm.b.facts.1 0
    have c1 := hm.b.facts.1 1
    rw [show entC e = #[.int .i64 e.need, e.sv, .int .i64 (e.made : Int)] from rfl, hv] at c0 c1
    have hsg : Seg w' base 32 2 (.slice (some ⟨g, off, none⟩) e.l.length cap) e.l.length (shC e.l) := by
      have := hm.s
      rw [hv] at this
      exact this
    obtain ⟨s0, s1⟩ := ShS.cell hsg 0 y hy
    rw [Nat.zero_mul, Nat.add_zero] at s0 s1
    exact ⟨⟨c0, c1, (HBX.out.below hb' HBX.out.lt).facts.1 0, (HBX.out.below hb' HBX.out.lt).facts.1 1, s0, s1⟩, hb', hm.b.facts.2.1 1⟩
  refine (HD.out _ HB0.out).mono ?_
  rintro r w1 ⟨rfl, hb1⟩
  have HB1 := Lib.hid hb1
  obtain ⟨⟨c0, c1, k0, k1, s0, s1⟩, _⟩ := HMK.out w1 hb1
  have hl0 : (0 : Int) < (e.l.length : Int) := by have := HOK.out.c; omega
  have hyx' : (y.2.length : Int) = (x.2.length : Int) := by have := HYX.out; omega
  clear hb1
  go_wp2_with fail
  go_region
  go_wp2_with fail
  clear c0 c1 k0 k1 s0 s1
  go_region_held3 (fun w' => (w'.cell? ⟨e.eb, 0, none⟩ = some (.int .i64 e.need) ∧ w'.cell? ⟨e.eb, 1, none⟩ = some (.slice (some ⟨g, off, none⟩) e.l.length cap) ∧ w'.cell? ⟨bx, 0, none⟩ = some (.int .i64 x.1) ∧ w'.cell? ⟨bx, 1, none⟩ = some (Str x.2) ∧ w'.cell? ⟨g, off, none⟩ = some (.int .i64 y.1) ∧ w'.cell? ⟨g, off + 1, none⟩ = some (Str y.2)) ∧ Below W0.heap.size W0 w')
    (first
      | exact ⟨(HMK.out _ HB1.out.drew.drew).1, HB1.out.drew.drew⟩
      | exact ⟨(HMK.out _ HB1.out.drew).1, HB1.out.drew⟩
      | (go_split_ands; exact ⟨(HMK.out _ (Below.chain hb (by assumption))).1, Below.chain hb (by assumption)⟩))
    ((first
      | (go_at_call 46; refine (HBS.out _ (by (go_split_ands; assumption))).mono ?_; rintro e wy ⟨rfl, hb⟩)))
  have HBY : Hid (Below W0.heap.size W0 wy) := Lib.hid (Below.chain hb HB1.out.drew.drew)
  obtain ⟨⟨c0, c1, k0, k1, s0, s1⟩, _⟩ := HMK.out wy HBY.out
  clear hb s0 s1
  go_wp2_with fail
  have hlow : lowN x.1 e.l < e.l.length := (List.getElem?_eq_some_iff.1 hz).1
  have hzb : ∃ z2, wy.cell? ⟨g, off + lowN x.1 e.l * 2 + 1, none⟩ = some (Str z2) ∧ z2 = z.2 := by
    have hm := HE.out.chain (Below.chain HBY.out (by rw [hbxn]; exact HB0.out))
    have hsg : Seg wy base 32 2 (.slice (some ⟨g, off, none⟩) e.l.length cap) e.l.length (shC e.l) := by
      have := hm.s
      rw [hv] at this
      exact this
    exact ⟨z.2, (ShS.cell hsg _ z hz).2, rfl⟩
  obtain ⟨z2, cz, hz2⟩ := hzb
  have hlow' : (lowN x.1 e.l : Int) < (e.l.length : Int) := by omega
  have hz3 : ¬ z2 = x.2 := fun h9 => hsame (by rw [hz, ← h9, hz2, ← hzx])
  have hsb : (z2 == x.2) = false := beq_eq_false_iff_ne.2 hz3
  clear hz hz2 hsame hzx hlow
  go_region
  go_wp2_with fail
  go_ret
  exact ⟨rfl, Below.chain HBY.out.drew (by rw [hbxn]; exact HB0.out)⟩
end Go.Proofs.Ytnommofekjiiaaa
