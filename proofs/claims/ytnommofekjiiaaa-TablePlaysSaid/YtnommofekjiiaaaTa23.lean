/-
  The table: the example (chapter 18).
-/
import Derived.Test.YtnommofekjiiaaaTa22
import Derived.Deep.RegionHeld3
namespace Go.Proofs.Ytnommofekjiiaaa
open Go Go.RowKit Go.MuLone
set_option linter.unusedVariables false
set_option linter.unusedSimpArgs false
set_option maxRecDepth 100000
set_option maxHeartbeats 2000000
/-- A table of room 2 at bt, and a key of its own at kb. -/
def AW (W : World) (bt kb : Nat) (A : List DE) (m : Nat) (w : World) : Prop := (∃ s, Tab W.heap.size w bt 2 A m s) ∧ Blk w kb #[.int .i64 1, .int .u32 7] 35 ∧ Below W.heap.size W w
theorem AW.turn {W w w' : World} {bt kb : Nat} {A A' : List DE} {m m' : Nat} (h : AW W bt kb A m w) (ht : Turn W.heap.size KT w w') (hs : ∃ s, Tab W.heap.size w' bt 2 A' m' s) : AW W bt kb A' m' w' :=
  ⟨hs, ht.blk h.2.1 (by decide), h.2.2.trans (ht.below h.2.2.size)⟩
theorem AW.chain {W w w' : World} {bt kb : Nat} {A : List DE} {m : Nat} (h : AW W bt kb A m w) (hb : Below w.heap.size w w') : AW W bt kb A m w' :=
  ⟨h.1.imp fun s hs => hs.chain hb, h.2.1.below hb h.2.1.lt, Below.chain hb h.2.2⟩
theorem aw_put {W w : World} {bt kb : Nat} {A A' : List DE} {m v : Nat} (k1 k2 need x1 : Int) (x2 : List UInt8) (h : AW W bt kb A m w) (hm : m ≤ 1000) (hA : putA 2 A (k1, k2) need (x1, x2) = A') (hv : putV 2 A (k1, k2) need (x1, x2) = v) :
    Calls Try.prog 12 #[ptr bt, .agg #[.int .i64 k1, .int .u32 k2], .int .i64 need, .agg #[.int .i64 x1, Str x2]] w fun e w' => e = .returned (.int .i64 (v : Int)) ∧ AW W bt kb A' (m + 1) w' := by
  obtain ⟨s, hs⟩ := h.1
  subst hA hv
  refine (tPut W.heap.size bt 2 A m s (k1, k2) need (x1, x2) w hs (by omega) h.2.2.size).mono ?_
  rintro e w' ⟨rfl, hs', ht⟩
  exact ⟨rfl, h.turn ht hs'⟩
theorem tLen (base bt room : Nat) (A : List DE) (m : Nat) (s : TS) (w : World) (h : Tab base w bt room A m s) : Calls Try.prog 11 #[ptr bt] w (TabR base bt room A m w (.int .i64 (A.length : Nat))) := by
  obtain ⟨ht, ok, ha, hr, hm⟩ := h
  subst ha hr
  refine (tlen_any bt s w ht.tb).mono ?_
  rintro e w' ⟨rfl, hb, ho⟩
  have hl : s.A.length = s.n := by unfold TS.A; rw [List.length_map, ok.n]
  refine ⟨by rw [hl], ⟨s, ht.setTab (n := s.n) (made := s.made) ho hb, ok, rfl, rfl, hm⟩, Turn.only1 ho ht.lo ht.tb (by simp)⟩
theorem aw_old {W w : World} {bt kb : Nat} {A : List DE} {m : Nat} (k1 k2 : Int) (h : AW W bt kb A m w) {d : Int × List Sh} (hA : oldD A = some ((k1, k2), d)) :
    Calls Try.prog 9 #[ptr bt] w fun e w' => e = .returned (.tuple #[.agg #[.int .i64 k1, .int .u32 k2], .bool true]) ∧ AW W bt kb A m w' := by
  obtain ⟨s, hs⟩ := h.1
  refine (oldest_any W.heap.size bt 2 A m s w hs).mono ?_
  rintro e w' ⟨rfl, hs', ht⟩
  exact ⟨by rw [hA]; rfl, h.turn ht hs'⟩
theorem aw_take {W w : World} {bt kb : Nat} {A A' : List DE} {m : Nat} {nd : Int} (k1 k2 : Int) (l : List Sh) (h : AW W bt kb A m w) (hl : 0 < l.length) (hA : getD (k1, k2) A = some ((k1, k2), nd, l)) (hA' : (A.filter fun f => !decide (f.1 = (k1, k2))) = A') :
    Calls Try.prog 14 #[ptr bt, .agg #[.int .i64 k1, .int .u32 k2]] w fun e w' => ∃ g off cap, e = .returned (.tuple #[.slice (some ⟨g, off, none⟩) l.length cap, .bool true]) ∧ ShS w' W.heap.size (.slice (some ⟨g, off, none⟩) l.length cap) l ∧ AW W bt kb A' m w' ∧ Turn W.heap.size KT w w' := by
  obtain ⟨s, hs⟩ := h.1
  subst hA'
  refine (tTake W.heap.size bt 2 A m s (k1, k2) w hs h.2.2.size).mono ?_
  rintro e w' ⟨sv, rfl, hsv, hs', ht⟩
  rw [hA] at hsv
  have hsv' : ShS w' W.heap.size sv l := hsv
  obtain ⟨g, off, cap, rfl, _⟩ := hsv'.shape hl
  exact ⟨g, off, cap, by rw [hA]; rfl, hsv', h.turn ht hs', ht⟩
theorem aw_len {W w : World} {bt kb : Nat} {A : List DE} {m : Nat} (h : AW W bt kb A m w) : Calls Try.prog 11 #[ptr bt] w fun e w' => e = .returned (.int .i64 (A.length : Nat)) ∧ AW W bt kb A m w' ∧ Turn W.heap.size KT w w' := by
  obtain ⟨s, hs⟩ := h.1
  refine (tLen W.heap.size bt 2 A m s w hs).mono ?_
  rintro e w' ⟨rfl, hs', ht⟩
  exact ⟨rfl, h.turn ht hs', ht⟩
theorem aw_drop {W w : World} {bt kb : Nat} {A : List DE} {m n : Nat} (z : Int) (h : AW W bt kb A m w) (hn : A.length - (A.filter fun f => !decide (f.1.1 = z)).length = n) : Calls Try.prog 15 #[ptr bt, .int .i64 z] w fun e w' => e = .returned (.int .i64 (n : Int)) ∧ Below W.heap.size W w' ∧ Turn W.heap.size KT w w' := by
  obtain ⟨s, hs⟩ := h.1
  subst hn
  refine (drop_any W.heap.size bt 2 A m s z w hs h.2.2.size).mono ?_
  rintro e w' ⟨rfl, hs', ht⟩
  exact ⟨rfl, (h.turn ht hs').2.2, ht⟩
def A18a : List DE := [((1, 7), 2, [(3, [97])])]
def A18b : List DE := [((1, 7), 2, [(0, [98]), (3, [97])])]
def A18c : List DE := [((1, 7), 2, [(0, [98]), (3, [97])]), ((1, 0), 3, [(0, [120])])]
def A18d : List DE := [((1, 0), 3, [(0, [120])])]
theorem awake18_ok (W : World) : Calls Try.prog 6 #[] W fun e w' => e = .returned (.bool true) ∧ Below W.heap.size W w' := by
  go_enter Try.func6, Try.ntmps6
  go_wp2_with fail
  refine (new_ok 4 2 W (by decide) (by decide) (by decide) (by decide)).mono ?_
  rintro e w1 ⟨rfl, hs1, hb1⟩
  have HB1 := Lib.hid hb1
  have HS1 := Lib.hid hs1
  clear hb1 hs1
  go_wp2_with fail
  refine (new_bad 0 2 w1 (.inl (by decide))).mono ?_
  rintro e w2 ⟨rfl, hb2⟩
  have hk2 := Blk.new w2 #[.int .i64 1, .int .u32 7] 35
  have hbb := Below.chainAlloc hb2 (.cells #[.int .i64 1, .int .u32 7] 35)
  have HAW : Hid (AW W W.heap.size w2.heap.size [] 0 (w2.alloc (.cells #[.int .i64 1, .int .u32 7] 35))) := Lib.hid ⟨HS1.out.imp fun s hs => hs.chain hbb, hk2, Below.chain hbb HB1.out⟩
  have hkl := hk2.lt
  clear hb2 HS1 HB1 hk2 hbb
  go_wp2_with fail
  have HAD : Hid (AW W W.heap.size w2.heap.size [] 0 (w2.alloc (.cells #[.int .i64 1, .int .u32 7] 35)).drew) := Lib.hid (HAW.out.chain (Below.refl _ _).drew)
  generalize hkb : w2.heap.size = kb at *
  generalize hbt : W.heap.size = bt at HAD HAW ⊢
  generalize w2.alloc (.cells #[.int .i64 1, .int .u32 7] 35) = wk at *
  have KQ : Hid (∀ w' A m, AW W bt kb A m w' → w'.cell? ⟨kb, 0, none⟩ = some (.int .i64 1) ∧ w'.cell? ⟨kb, 1, none⟩ = some (.int .u32 7)) := Lib.hid fun w' A m h => ⟨h.2.1.facts.1 0, h.2.1.facts.1 1⟩
  clear hbt hkb hkl
  go_region_held3 (fun w' => w'.cell? ⟨kb, 0, none⟩ = some (.int .i64 1) ∧ w'.cell? ⟨kb, 1, none⟩ = some (.int .u32 7))
    (first
      | with_reducible exact KQ.out _ _ _ HAD.out
      | with_reducible exact KQ.out _ _ _ H3.out
      | with_reducible exact KQ.out _ _ _ H4.out
      | with_reducible exact KQ.out _ _ _ H5.out
      | with_reducible exact KQ.out _ _ _ H6.out)
    ((first
      | (go_at_call 12; (with_reducible show Calls _ _ _ wk.drew _); refine (aw_put (A' := A18a) (v := 0) 1 7 2 3 [97] HAD.out (by decide) (by kernel_rfl) (by kernel_rfl)).mono ?_; rintro e w3 ⟨rfl, h3⟩; have H3 := Lib.hid h3; have q30 := h3.2.1.facts.1 0; have q31 := h3.2.1.facts.1 1; clear h3)
      | (go_at_call 12; (with_reducible show Calls _ _ _ w3 _); refine (aw_put (A' := A18a) (v := 1) 1 7 2 3 [97] H3.out (by decide) (by kernel_rfl) (by kernel_rfl)).mono ?_; rintro e w4 ⟨rfl, h4⟩; have H4 := Lib.hid h4; have q40 := h4.2.1.facts.1 0; have q41 := h4.2.1.facts.1 1; clear h4)
      | (go_at_call 12; (with_reducible show Calls _ _ _ w4 _); refine (aw_put (A' := A18b) (v := 3) 1 7 2 0 [98] H4.out (by decide) (by kernel_rfl) (by kernel_rfl)).mono ?_; rintro e w5 ⟨rfl, h5⟩; have H5 := Lib.hid h5; have q50 := h5.2.1.facts.1 0; have q51 := h5.2.1.facts.1 1; clear h5)
      | (go_at_call 12; (with_reducible show Calls _ _ _ w5 _); refine (aw_put (A' := A18b) (v := 1) 1 7 2 5 [99] H5.out (by decide) (by kernel_rfl) (by kernel_rfl)).mono ?_; rintro e w6 ⟨rfl, h6⟩; have H6 := Lib.hid h6; have q60 := h6.2.1.facts.1 0; have q61 := h6.2.1.facts.1 1; clear h6)))
  clear HAD HAW H3 H4 H5 KQ q30 q31 q40 q41 q50 q51 q60 q61
  go_wp2_with fail
  refine (aw_put (A' := A18c) (v := 0) 1 0 3 0 [120] H6.out (by decide) (by kernel_rfl) (by kernel_rfl)).mono ?_
  rintro e w7 ⟨rfl, h7⟩
  have H7 := Lib.hid h7
  clear h7 H6
  go_wp2_with fail
  refine (aw_put (A' := A18c) (v := 2) 2 0 3 0 [120] H7.out (by decide) (by kernel_rfl) (by kernel_rfl)).mono ?_
  rintro e w8 ⟨rfl, h8⟩
  have H8 := Lib.hid h8
  clear h8 H7
  go_wp2_with fail
  refine (aw_old 1 0 H8.out (d := (3, [(0, [120])])) (by kernel_rfl)).mono ?_
  rintro e w9 ⟨rfl, h9⟩
  have H9 := Lib.hid h9
  have HA9 := Lib.hid (h9.chain (Below.chainAlloc (Below.refl _ w9) (.cells #[.int .i64 1, .int .u32 0] 35)))
  have HO9 : Hid (Blk (w9.alloc (.cells #[.int .i64 1, .int .u32 0] 35)) w9.heap.size #[.int .i64 1, .int .u32 0] 35) := Lib.hid (Blk.new w9 _ _)
  have k90 := h9.2.1.facts.1 0
  have k91 := h9.2.1.facts.1 1
  have kl9 := h9.2.1.lt
  clear h9 H8 H9
  go_wp2_with fail
  generalize hob : w9.heap.size = ob at *
  generalize w9.alloc (.cells #[.int .i64 1, .int .u32 0] 35) = wa at *
  have HTK := Lib.hid (aw_take (A' := A18d) (nd := 2) 1 7 [(0, [98]), (3, [97])] HA9.out (by decide) (by kernel_rfl) (by kernel_rfl))
  refine HTK.out.mono ?_
  rintro e w10 ⟨g, off, cap, rfl, hsh, h10, ht10⟩
  have H10 := Lib.hid h10
  have hob := ht10.blk HO9.out (by decide)
  have o0 := hob.facts.1 0
  have o1 := hob.facts.1 1
  obtain ⟨l0, l1⟩ := ShS.cell hsh 0 (0, [98]) rfl
  rw [Nat.zero_mul, Nat.add_zero] at l0 l1
  have k0 := h10.2.1.facts.1 0
  have k1 := h10.2.1.facts.1 1
  have hek : ∀ w, (binOp .eql 35 (.agg #[.int .i64 1, .int .u32 0]) (.agg #[.int .i64 1, .int .u32 0])).run Try.prog w = .ok (.bool true) w := fun w => run_eql_key w (1, 0) (1, 0)
  clear h10 hsh k90 k91 ht10 hob HTK HO9 HA9
  go_wp2_with fail
  refine (aw_len H10.out).mono ?_
  rintro e w11 ⟨rfl, h11, _⟩
  have H11 := Lib.hid h11
  have k0 := h11.2.1.facts.1 0
  have k1 := h11.2.1.facts.1 1
  clear h11
  go_wp2_with fail
  refine (aw_put (A' := A18d) (v := 5) 1 7 33 0 [] H11.out (by decide) (by kernel_rfl) (by kernel_rfl)).mono ?_
  rintro e w12 ⟨rfl, h12⟩
  have H12 := Lib.hid h12
  clear h12
  go_wp2_with fail
  refine (aw_drop (n := 1) 1 H12.out (by kernel_rfl)).mono ?_
  rintro e w13 ⟨rfl, h13, _⟩
  have H13 := Lib.hid h13
  clear h13
  go_wp2_with fail
  go_ret
  exact ⟨rfl, H13.out⟩
end Go.Proofs.Ytnommofekjiiaaa
