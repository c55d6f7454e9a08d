/-
  The law TablePlays, walked (chapter 18).
-/
import Derived.Test.YtnommofekjiiaaaTb14
namespace Go.Proofs.Ytnommofekjiiaaa
open Go Go.RowKit Go.MuLone
set_option linter.unusedVariables false
set_option linter.unusedSimpArgs false
set_option maxRecDepth 100000
set_option maxHeartbeats 4000000
theorem play18_many (z1 z2 : Int) (a : Option Addr) (len cap : Nat) (w : World) (h : 80 < len) : Calls Try.prog 3 #[.int .i64 z1, .int .i64 z2, .slice a len cap] w fun e w' => e = .returned (.bool true) ∧ Below w.heap.size w w' := by
  have hl2 : (80 : Int) < (len : Int) := by omega
  go_enter Try.func3, Try.ntmps3
  go_wp2_with fail
  refine (awake18_ok _).mono ?_
  rintro e w1 ⟨rfl, hb⟩
  go_wp2_with fail
  go_ret
  exact ⟨rfl, hb⟩
theorem play18_bad (z1 z2 : Int) (hz : z1 < 1 ∨ 64 < z1 ∨ z2 < 1 ∨ 65536 < z2) (a : Option Addr) (len cap : Nat) (w : World) (h : len ≤ 80) : Calls Try.prog 3 #[.int .i64 z1, .int .i64 z2, .slice a len cap] w fun e w' => e = .returned (.bool true) ∧ Below w.heap.size w w' := by
  have hl2 : ¬ (80 : Int) < (len : Int) := by omega
  have HN := Lib.hid (new_bad z1 z2 w hz)
  have HA : Hid (∀ w', Calls Try.prog 6 #[] w' fun e w2 => e = .returned (.bool true) ∧ Below w'.heap.size w' w2) := Lib.hid fun w' => awake18_ok w'
  by_cases h1 : z1 < 1
  · clear hz
    go_enter Try.func3, Try.ntmps3
    go_wp2_with fail
    refine HN.out.mono ?_
    rintro e w2 ⟨rfl, hb2⟩
    have HB2 := Lib.hid hb2
    clear hb2
    go_wp2_with fail
    refine (HA.out w2).mono ?_
    rintro e w1 ⟨rfl, hb⟩
    have HB := Lib.hid (Below.chain hb HB2.out)
    clear hb
    go_wp2_with fail
    go_ret
    exact ⟨rfl, HB.out⟩
  · by_cases h2 : 64 < z1
    · clear hz
      go_enter Try.func3, Try.ntmps3
      go_wp2_with fail
      refine HN.out.mono ?_
      rintro e w2 ⟨rfl, hb2⟩
      have HB2 := Lib.hid hb2
      clear hb2
      go_wp2_with fail
      refine (HA.out w2).mono ?_
      rintro e w1 ⟨rfl, hb⟩
      have HB := Lib.hid (Below.chain hb HB2.out)
      clear hb
      go_wp2_with fail
      go_ret
      exact ⟨rfl, HB.out⟩
    · by_cases h3 : z2 < 1
      · clear hz
        go_enter Try.func3, Try.ntmps3
        go_wp2_with fail
        refine HN.out.mono ?_
        rintro e w2 ⟨rfl, hb2⟩
        have HB2 := Lib.hid hb2
        clear hb2
        go_wp2_with fail
        refine (HA.out w2).mono ?_
        rintro e w1 ⟨rfl, hb⟩
        have HB := Lib.hid (Below.chain hb HB2.out)
        clear hb
        go_wp2_with fail
        go_ret
        exact ⟨rfl, HB.out⟩
      · have h4 : 65536 < z2 := by omega
        clear hz
        go_enter Try.func3, Try.ntmps3
        go_wp2_with fail
        refine HN.out.mono ?_
        rintro e w2 ⟨rfl, hb2⟩
        have HB2 := Lib.hid hb2
        clear hb2
        go_wp2_with fail
        refine (HA.out w2).mono ?_
        rintro e w1 ⟨rfl, hb⟩
        have HB := Lib.hid (Below.chain hb HB2.out)
        clear hb
        go_wp2_with fail
        go_ret
        exact ⟨rfl, HB.out⟩
/-- How all lies in the law's loop. -/
structure Pl18 (W : World) (bt b9 room : Nat) (A : List DE) (m : Nat) (v : Value) (w : World) : Prop where
  j : J18 W.heap.size bt room A m v A w
  k : Blk w b9 #[.int .i64 (room : Int), v] 30
  b : Below W.heap.size W w
  lo : W.heap.size ≤ b9
theorem Pl18.chain {W w w' : World} {bt b9 room m : Nat} {A : List DE} {v : Value} (h : Pl18 W bt b9 room A m v w) (hb : Below w.heap.size w w') : Pl18 W bt b9 room A m v w' := ⟨h.j.chain hb, h.k.below hb h.k.lt, Below.chain hb h.b, h.lo⟩
/-- Behind a deed: the answer lies in a cell of its own. -/
def DidF18 (W : World) (bt b9 room : Nat) (v : Value) (m : Nat) (A1 : List DE) (wx : World) (b11 : Nat) : Prop :=
  ∃ a1 c1, J18 W.heap.size bt room A1 m (.slice a1 A1.length c1) A1 wx ∧ Blk wx b11 #[.int .i64 (room : Int), .slice a1 A1.length c1] 30 ∧ Blk wx b9 #[.int .i64 (room : Int), v] 30 ∧ Below W.heap.size W wx
theorem did18_a {W w5 : World} {bt b9 room m : Nat} {v : Value} {A1 : List DE} {a1 : Option Addr} {c1 : Nat} (hj : J18 W.heap.size bt room A1 m (.slice a1 A1.length c1) A1 w5) (h9 : Blk w5 b9 #[.int .i64 (room : Int), v] 30) (hb : Below W.heap.size W w5) :
    DidF18 W bt b9 room v m A1 (w5.alloc (.cells #[.int .i64 (room : Int), .slice a1 A1.length c1] 30)) w5.heap.size := by
  have hb' := Below.chainAlloc (Below.refl _ w5) (.cells #[.int .i64 (room : Int), .slice a1 A1.length c1] 30)
  exact ⟨a1, c1, hj.chain hb', Blk.new _ _ _, h9.alloc _, Below.chain hb' hb⟩
theorem did18_b {W w5 : World} {bt b9 b11 room m : Nat} {v u0 u1 : Value} {A1 : List DE} {a1 : Option Addr} {c1 : Nat} (hj : J18 W.heap.size bt room A1 m (.slice a1 A1.length c1) A1 w5) (h9 : Blk w5 b9 #[.int .i64 (room : Int), v] 30) (hb : Below W.heap.size W w5) (h11 : Blk w5 b11 #[u0, u1] 30) (hne : b9 < b11) (hlo : W.heap.size ≤ b9) :
    DidF18 W bt b9 room v m A1 ((w5.setCell ⟨b11, 0, none⟩ (.int .i64 (room : Int))).setCell ⟨b11, 1, none⟩ (.slice a1 A1.length c1)) b11 := by
  have ho := only_two w5 b11 (.int .i64 (room : Int)) (.slice a1 A1.length c1)
  exact ⟨a1, c1, hj.setT (b0 := 0) (Turn.only1 ho (Nat.zero_le _) h11 (by simp)), (h11.setAt 0 _ rfl).setAt 1 _ rfl, h9.only ho (by simp; omega), Below.only hb ho (by simp; omega)⟩
theorem Pl18.deed {W w : World} {bt b9 room m : Nat} {A : List DE} {v : Value} (h : Pl18 W bt b9 room A m v w) (hl : A.length ≤ 900) (hr : room ≤ 1000000) (hm : m ≤ 1000000) (kd k1 k2 need xi : Int) (xt : List UInt8) {A1 : List DE} (hA1 : stepA room A kd k1 k2 need xi xt = A1) :
    Calls Try.prog 8 #[ptr bt, .agg #[.int .i64 (room : Int), v], .agg #[.int .i64 kd, .int .i64 k1, .int .u32 k2, .int .i64 need, .int .i64 xi, Str xt]] w fun e w5 => ∃ a1 c1, e = .returned (.tuple #[.agg #[.int .i64 (room : Int), .slice a1 A1.length c1], .bool true]) ∧
      J18 W.heap.size bt room A1 (m + 1) (.slice a1 A1.length c1) A1 w5 ∧ Turn W.heap.size KT w w5 ∧ Blk w5 b9 #[.int .i64 (room : Int), v] 30 ∧ Below W.heap.size W w5 := by
  subst hA1
  refine (do18_any h.j hl hr hm kd k1 k2 need xi xt).mono ?_
  rintro e w5 ⟨a1, c1, rfl, hj, ht⟩
  exact ⟨a1, c1, rfl, hj, ht, ht.blk h.k (by decide), h.b.trans (ht.below h.b.size)⟩
theorem DidF18.next {W wx : World} {bt b9 b11 room m : Nat} {v : Value} {A1 : List DE} (h : DidF18 W bt b9 room v m A1 wx b11) (hlo : W.heap.size ≤ b9) : ∃ a1 c1, Blk wx b11 #[.int .i64 (room : Int), .slice a1 A1.length c1] 30 ∧ Blk wx b9 #[.int .i64 (room : Int), v] 30 ∧
    Pl18 W bt b9 room A1 m (.slice a1 A1.length c1) ((wx.setCell ⟨b9, 0, none⟩ (.int .i64 (room : Int))).setCell ⟨b9, 1, none⟩ (.slice a1 A1.length c1)) := by
  obtain ⟨a1, c1, hj, h11, h9, hb⟩ := h
  have ho := only_two wx b9 (.int .i64 (room : Int)) (.slice a1 A1.length c1)
  exact ⟨a1, c1, h11, h9, ⟨hj.setT (b0 := 0) (Turn.only1 ho (Nat.zero_le _) h9 (by simp)), (h9.setAt 0 _ rfl).setAt 1 _ rfl, Below.only hb ho (by simp; omega), hlo⟩⟩
theorem Pl18.turn {W w w' : World} {bt b9 room m : Nat} {A : List DE} {v : Value} (h : Pl18 W bt b9 room A m v w) (hj : J18 W.heap.size bt room A m v A w') (ht : Turn W.heap.size KT w w') : Pl18 W bt b9 room A m v w' := ⟨hj, ht.blk h.k (by decide), h.b.trans (ht.below h.b.size), h.lo⟩
theorem play18_good (z1 z2 : Nat) (hz1 : 1 ≤ z1) (hz2 : z1 ≤ 64) (hz3 : 1 ≤ z2) (hz4 : z2 ≤ 65536) (a : Option Addr) (len cap : Nat) (l : List Dd) (w : World) (hz : IsRows 6 ddC w a len cap l) (h : len ≤ 80) : Calls Try.prog 3 #[.int .i64 (z1 : Int), .int .i64 (z2 : Int), .slice a len cap] w fun e w' => e = .returned (.bool true) ∧ Below w.heap.size w w' := by
  have hl2 : ¬ (80 : Int) < (len : Int) := by omega
  have h1 : ¬ (z1 : Int) < 1 := by omega
  have h2 : ¬ (64 : Int) < (z1 : Int) := by omega
  have h3 : ¬ (z2 : Int) < 1 := by omega
  have h4 : ¬ (65536 : Int) < (z2 : Int) := by omega
  have HZ := Lib.hid hz
  have HL := Lib.hid h
  have HR : Hid (z2 ≤ 1000000) := Lib.hid (by omega)
  have HN := Lib.hid (new_ok z1 z2 w hz1 hz2 hz3 hz4)
  clear hz h hz1 hz2 hz3 hz4
  go_enter Try.func3, Try.ntmps3
  go_wp2_with fail
  refine HN.out.mono ?_
  rintro e w1 ⟨rfl, hs1, hb1⟩
  have hj : J18 w.heap.size w.heap.size z2 [] 0 (.slice none 0 0) [] w1 := ⟨hs1, ⟨[], Seg.nil _ _ _ _, rfl, by simp⟩, hb1.size⟩
  have ha := Below.chainAlloc (Below.refl _ w1) (.cells #[.int .i64 (z2 : Int), .slice none 0 0] 30)
  have HP : Hid (Pl18 w w.heap.size w1.heap.size z2 [] 0 (.slice none 0 0) (w1.alloc (.cells #[.int .i64 (z2 : Int), .slice none 0 0] 30))) := Lib.hid ⟨hj.chain ha, Blk.new _ _ _, Below.chain ha hb1, hb1.size⟩
  clear hs1 hb1 hj ha HN
  go_wp2_with fail
  generalize w1.alloc (.cells #[.int .i64 (z2 : Int), .slice none 0 0] 30) = W1 at *
  generalize w1.heap.size = b9 at *
  generalize hbt : w.heap.size = bt at HP ⊢
  have HBT := Lib.hid hbt
  clear hbt h1 h2 h3 h4
  go_loopg [10] len (fun gk i wr => ∃ (k m : Nat) (A : List DE) (v : Value), len - k ≤ gk ∧ k ≤ len ∧ i = .int .i64 (k : Int) ∧ A.length ≤ k ∧ m ≤ k ∧ Hid (Pl18 w bt b9 z2 A m v wr))
  case atStart => exact ⟨0, 0, [], _, by omega, Nat.zero_le _, rfl, Nat.le_refl _, Nat.le_refl _, HP⟩
  case round =>
    clear HP
    obtain ⟨k, m, A, v, hkg, hk, rfl, hak, hmk, HP⟩ := hrel
    by_cases hlt : k < len
    · obtain ⟨g, off, hk', rfl, hg, hcell⟩ := HZ.out.get18 k hlt
      obtain ⟨c, hc⟩ : ∃ c, l[k] = c := ⟨_, rfl⟩
      rw [hc] at hcell
      obtain ⟨kind, s, b, need, xi, xt⟩ := c
      have hlt' : (k : Int) < (len : Int) := Int.ofNat_lt.2 hlt
      have hk0 : (0 : Int) ≤ (k : Int) := by omega
      have HCELL : Hid (∀ w', Below w.heap.size w w' → w'.cell? ⟨g, off + k * 6, none⟩ = some (.int .i64 kind) ∧ w'.cell? ⟨g, off + k * 6 + 1, none⟩ = some (.int .i64 s) ∧ w'.cell? ⟨g, off + k * 6 + 2, none⟩ = some (.int .u32 b) ∧ w'.cell? ⟨g, off + k * 6 + 3, none⟩ = some (.int .i64 need) ∧ w'.cell? ⟨g, off + k * 6 + 4, none⟩ = some (.int .i64 xi) ∧ w'.cell? ⟨g, off + k * 6 + 5, none⟩ = some (Str xt)) := Lib.hid fun w' hb =>
        ⟨(hb.cell (p := ⟨g, _, none⟩) hg).trans (hcell 0 (by decide)), (hb.cell (p := ⟨g, _, none⟩) hg).trans (hcell 1 (by decide)), (hb.cell (p := ⟨g, _, none⟩) hg).trans (hcell 2 (by decide)), (hb.cell (p := ⟨g, _, none⟩) hg).trans (hcell 3 (by decide)), (hb.cell (p := ⟨g, _, none⟩) hg).trans (hcell 4 (by decide)), (hb.cell (p := ⟨g, _, none⟩) hg).trans (hcell 5 (by decide))⟩
      have HK := Lib.hid hlt
      have HAK := Lib.hid hak
      have HMK := Lib.hid hmk
      obtain ⟨av, cv, rfl⟩ := HP.out.j.dform
      obtain ⟨e0, e1, e2, e3, e4, e5⟩ := HCELL.out _ HP.out.b
      have hgr : g < wr.heap.size := Nat.lt_of_lt_of_le hg HP.out.b.size
      clear hcell hc hk' hg hlt hak hmk
      by_cases h3 : (300 : Int) < (xt.length : Int)
      · go_wp2_with fail
        go_roundg (len - (k + 1))
        case measure => have := HK.out; omega
        case rel => exact ⟨k + 1, m, A, _, Nat.le_refl _, HK.out, by go_num, Nat.le_succ_of_le HAK.out, Nat.le_succ_of_le HMK.out, HP⟩
      · obtain ⟨A1, hA1⟩ : ∃ A1, stepA z2 A kind s b need xi xt = A1 := ⟨_, rfl⟩
        have HA1 := Lib.hid hA1
        have HLA : Hid (A1.length ≤ k + 1) := Lib.hid (by have := stepA_le z2 A kind s b need xi xt; have := HAK.out; rw [← HA1.out]; omega)
        have HDA := Lib.hid ((HP.out.chain (Below.refl _ wr).drew).deed (by have := HAK.out; have := HK.out; have := HL.out; omega) HR.out (by have := HMK.out; have := HK.out; have := HL.out; omega) kind s b need xi xt hA1)
        have HDB := Lib.hid ((HP.out.chain (Below.chainAlloc (Below.refl _ wr) (.cells #[.int .i64 0, .slice none 0 0] 30)).drew).deed (by have := HAK.out; have := HK.out; have := HL.out; omega) HR.out (by have := HMK.out; have := HK.out; have := HL.out; omega) kind s b need xi xt hA1)
        have k7 := HP.out.k
        have s0 := k7.facts.1 0
        have s1 := k7.facts.1 1
        have fs0 := k7.facts.2.1 0
        have fs1 := k7.facts.2.1 1
        have HLT9 := Lib.hid k7.lt
        have hlt9 := k7.lt
        clear k7 hA1
        go_upto_region 13 with fail
        go_cut [11, 12] (fun v11 v12 wx => ∃ b11 : Nat, v11 = .pointer (some ⟨b11, 0, none⟩) ∧ v12 = .bool true ∧ Hid (DidF18 w bt b9 z2 (.slice av A.length cv) (m + 1) A1 wx b11))
        case first =>
          go_region_law (first
            | (go_simp; go_at_call 8; (with_reducible refine HDA.out.mono ?_); rintro e w5 ⟨a1, c1, rfl, hj, ht, h9, hb⟩; have HE := Lib.hid (And.intro hj (And.intro h9 hb)); clear hj ht h9 hb)
            | (go_simp; go_at_call 8; (with_reducible refine HDB.out.mono ?_); rintro e w5 ⟨a1, c1, rfl, hj, ht, h9, hb⟩; have kn := ht.blk (Blk.new wr #[.int .i64 0, .slice none 0 0] 30).drew (by decide); have HE := Lib.hid (And.intro hj (And.intro h9 (And.intro hb kn))); have y0 := kn.facts.1 0; have y1 := kn.facts.1 1; have fy0 := kn.facts.2.1 0; have fy1 := kn.facts.2.1 1; clear hj ht h9 hb kn))
          all_goals
            go_wp2_with fail
            go_meet
            first
              | with_reducible exact ⟨_, rfl, rfl, Lib.hid (did18_a HE.out.1 HE.out.2.1 HE.out.2.2)⟩
              | exact ⟨_, rfl, rfl, Lib.hid (did18_b HE.out.1 HE.out.2.1 HE.out.2.2.1 HE.out.2.2.2 HLT9.out HP.out.lo)⟩
        case rest =>
          obtain ⟨b11, rfl, rfl, HDD⟩ := hcut
          obtain ⟨a1, c1, h11, h9, hpl⟩ := HDD.out.next HP.out.lo
          have HPL := Lib.hid hpl
          clear hlt9 hpl HDD HDA HDB s0 s1 fs0 fs1 e0 e1 e2 e3 e4 e5 hgr HP
          have y0 := h11.facts.1 0
          have y1 := h11.facts.1 1
          have s0 := h9.facts.1 0
          have s1 := h9.facts.1 1
          have fs0 := h9.facts.2.1 0
          have fs1 := h9.facts.2.1 1
          clear h11 h9
          have HTO := Lib.hid HPL.out.j.told
          obtain ⟨⟨o1, o2⟩, ho⟩ : ∃ o, ((oldD A1).map Prod.fst).getD (0, 0) = o := ⟨_, rfl⟩
          have HRO : Hid (∀ w', J18 w.heap.size bt z2 A1 (m + 1) (.slice a1 A1.length c1) A1 w' → Calls Try.prog 10 #[.agg #[.int .i64 (z2 : Int), .slice a1 A1.length c1]] w' fun e w2 => e = .returned (.tuple #[encK (((oldD A1).map Prod.fst).getD (0, 0)), .bool (oldD A1).isSome]) ∧ Below w'.heap.size w' w2) := Lib.hid fun w' h' => h'.rold (by have := HLA.out; have := HK.out; have := HL.out; omega)
          rw [ho] at HTO HRO
          unfold encK at HTO HRO
          dsimp only at HTO HRO
          generalize (oldD A1).isSome = so at *
          clear ho
          go_upto_region 15 with fail
          generalize (wc.setCell ⟨b9, 0, none⟩ (.int .i64 (z2 : Int))).setCell ⟨b9, 1, none⟩ (.slice a1 A1.length c1) = W3 at *
          clear y0 y1 s0 s1 fs0 fs1
          go_wp2_with fail
          refine HTO.out.mono ?_
          rintro e w4 ⟨rfl, hj4, ht4⟩
          have hp4 := HPL.out.turn hj4 ht4
          have ha4 := Below.chainAlloc (Below.refl _ w4) (.cells #[.int .i64 o1, .int .u32 o2] 35)
          have HP5 := Lib.hid (hp4.chain ha4)
          have HB13 := Lib.hid (Blk.new w4 #[.int .i64 o1, .int .u32 o2] 35)
          clear hj4 ht4 hp4 ha4 HTO HPL
          have s0 := HP5.out.k.facts.1 0
          have s1 := HP5.out.k.facts.1 1
          go_wp2_with fail
          generalize w4.alloc (.cells #[.int .i64 o1, .int .u32 o2] 35) = W5 at *
          generalize w4.heap.size = b13 at *
          refine (HRO.out _ HP5.out.j).mono ?_
          rintro e w6 ⟨rfl, hb6⟩
          have ha6 := Below.chainAlloc hb6 (.cells #[.int .i64 o1, .int .u32 o2] 35)
          have HP7 := Lib.hid (HP5.out.chain ha6)
          have HB7 := Lib.hid (And.intro (HB13.out.below ha6 HB13.out.lt) (Blk.new w6 #[.int .i64 o1, .int .u32 o2] 35))
          clear hb6 ha6 HRO HB13 HP5 s0 s1
          go_upto_region 17 with fail
          generalize w6.alloc (.cells #[.int .i64 o1, .int .u32 o2] 35) = W7 at *
          generalize w6.heap.size = b15 at *
          have hne : ∀ w', (binOp .neq 35 (.agg #[.int .i64 o1, .int .u32 o2]) (.agg #[.int .i64 o1, .int .u32 o2])).run Try.prog w' = .ok (.bool false) w' := fun w' => by
            have := run_neq_key w' (o1, o2) (o1, o2)
            unfold encK at this
            simpa using this
          have HS : Hid (∀ w', Pl18 w bt b9 z2 A1 (m + 1) (.slice a1 A1.length c1) w' → Blk w' b13 #[.int .i64 o1, .int .u32 o2] 35 → Blk w' b15 #[.int .i64 o1, .int .u32 o2] 35 → w'.cell? ⟨b13, 0, none⟩ = some (.int .i64 o1) ∧ w'.cell? ⟨b13, 1, none⟩ = some (.int .u32 o2) ∧ w'.cell? ⟨b15, 0, none⟩ = some (.int .i64 o1) ∧ w'.cell? ⟨b15, 1, none⟩ = some (.int .u32 o2) ∧ w'.cell? ⟨b9, 1, none⟩ = some (.slice a1 A1.length c1)) := Lib.hid fun w' q1 q2 q3 => ⟨q2.facts.1 0, q2.facts.1 1, q3.facts.1 0, q3.facts.1 1, q1.k.facts.1 1⟩
          have HCD := Lib.hid (HS.out W7.drew (HP7.out.chain (Below.refl _ W7).drew) HB7.out.1.drew HB7.out.2.drew)
          have HLN : Hid (Calls Try.prog 11 #[ptr bt] W7.drew fun e w2 => e = .returned (.int .i64 (A1.length : Nat)) ∧ Pl18 w bt b9 z2 A1 (m + 1) (.slice a1 A1.length c1) w2 ∧ Blk w2 b13 #[.int .i64 o1, .int .u32 o2] 35 ∧ Blk w2 b15 #[.int .i64 o1, .int .u32 o2] 35) := Lib.hid ((HP7.out.chain (Below.refl _ W7).drew).j.tlen.mono fun e w2 q => ⟨q.1, (HP7.out.chain (Below.refl _ W7).drew).turn q.2.1 q.2.2, q.2.2.blk HB7.out.1.drew (by decide), q.2.2.blk HB7.out.2.drew (by decide)⟩)
          clear HP7 HB7
          go_region_held3 (fun w' => w'.cell? ⟨b13, 0, none⟩ = some (.int .i64 o1) ∧ w'.cell? ⟨b13, 1, none⟩ = some (.int .u32 o2) ∧ w'.cell? ⟨b15, 0, none⟩ = some (.int .i64 o1) ∧ w'.cell? ⟨b15, 1, none⟩ = some (.int .u32 o2) ∧ w'.cell? ⟨b9, 1, none⟩ = some (.slice a1 A1.length c1))
            (first
              | with_reducible exact HCD.out
              | exact HS.out _ H2.out.1 H2.out.2.1 H2.out.2.2)
            ((first
              | (go_at_call 11; refine HLN.out.mono ?_; rintro e w2 ⟨rfl, h2⟩; have H2 := Lib.hid h2; clear h2)))
          clear HCD HLN hne
          go_wp2_with fail
          go_roundg (len - (k + 1))
          case measure => have := HK.out; omega
          case rel => exact ⟨k + 1, m + 1, A1, _, Nat.le_refl _, HK.out, by go_num, HLA.out, Nat.succ_le_succ HMK.out, H2.out.1⟩
    · obtain rfl : k = len := Nat.le_antisymm hk (Nat.le_of_not_lt hlt)
      have hlt' : ¬ (k : Int) < (k : Int) := Int.lt_irrefl _
      have HB := Lib.hid HP.out.b
      clear hk hlt hmk hak
      go_wp2_with fail
      refine (awake18_ok _).mono ?_
      rintro e w8 ⟨rfl, hb⟩
      have HB8 := Lib.hid (Below.chain hb HB.out)
      clear hb
      go_wp2_with fail
      go_ret
      exact ⟨rfl, HB8.out⟩
theorem plays_any (z1 z2 : Int) (a : Option Addr) (len cap : Nat) (l : List Dd) (w : World) (hz : IsRows 6 ddC w a len cap l) : Calls Try.prog 3 #[.int .i64 z1, .int .i64 z2, .slice a len cap] w fun e w' => e = .returned (.bool true) ∧ Below w.heap.size w w' := by
  by_cases h : 80 < len
  · exact play18_many z1 z2 a len cap w h
  · by_cases h1 : z1 < 1 ∨ 64 < z1 ∨ z2 < 1 ∨ 65536 < z2
    · exact play18_bad z1 z2 h1 a len cap w (by omega)
    · obtain ⟨n1, rfl⟩ : ∃ n : Nat, z1 = (n : Int) := ⟨z1.toNat, by omega⟩
      obtain ⟨n2, rfl⟩ : ∃ n : Nat, z2 = (n : Int) := ⟨z2.toNat, by omega⟩
      exact play18_good n1 n2 (by omega) (by omega) (by omega) (by omega) a len cap l w hz (by omega)
end Go.Proofs.Ytnommofekjiiaaa
