/-
  Texts in parts: the walk of the law FragPlays (chapter 49).
-/
import Derived.Test.YtgfbhclkpephnaaFpJ
import Derived.Test.YtgfbhclkpephnaaFr14
import Derived.Test.YtgfbhclkpephnaaLift3
import Derived.Test.YtgfbhclkpephnaaFlat
namespace Go.Proofs.Ytgfbhclkpephnaa
open Go Go.RowKit
set_option linter.unusedVariables false
set_option linter.unusedSimpArgs false
set_option maxRecDepth 100000
set_option maxHeartbeats 4000000
open Go.ChangeShapes Go.WideShapes Go.ChangeAt
theorem Blk.ne_ty {w : World} {b c : Nat} {cs cs' : Array Value} {t t' : TypeId} (h : Blk w b cs t) (h' : Blk w c cs' t') (hn : t ≠ t') : b ≠ c := by
  rintro rfl
  unfold Blk at h h'
  rw [h] at h'
  cases h'
  exact hn rfl
theorem JnA.storeJ {base : Nat} {w : World} {bj bm bh : Nat} {room : Int} {A : List AE} {cs : Array Value} (h : JnA base w bj bm room A) (hh : Blk w bh cs 80) (o : Nat) (v : Value) : JnA base (w.setCell ⟨bh, o, none⟩ v) bj bm room A := by
  obtain ⟨es, hj, hr⟩ := h
  refine ⟨es, hj.kept (S := [bh]) ((Only.refl _ _).setCell _ _ (.inl (by simp))) ?_ ?_ (fun e he => ⟨?_, ?_⟩), hr⟩
  · simpa using hj.b.ne_ty hh (by decide)
  · simpa using (hh.ne_map hj.m).symm
  · simpa using (hj.e e he).b.ne_ty hh (by decide)
  · simpa using (hh.ne_map (hj.e e he).m).symm
theorem seg_ne {w : World} {base size n b : Nat} {e t : TypeId} {v : Value} {xs : List Value} {cs : Array Value} (h : Seg w base e size v n xs) (hb : Blk w b cs t) (hn : e ≠ t) : ∀ g, v.ownBlock = some g → g ≠ b := fun g hg hgb => by
  rcases h.2 with ⟨hv, _⟩ | ⟨g', off, cap, cur, hv, _, hh, _⟩
  · rw [hv] at hg; cases hg
  · rw [hv] at hg
    obtain rfl : g' = g := by simpa [Value.ownBlock] using hg
    unfold Blk at hb
    rw [← hgb, hh] at hb
    cases hb
    exact hn rfl
theorem SegA.storeJ {w : World} {b : Nat} {v : Value} {A : List AE} {cs : Array Value} (h : SegA w v A) (hb : Blk w b cs 80) (o : Nat) (u : Value) : SegA (w.setCell ⟨b, o, none⟩ u) v A := Seg.setOther h _ _ (seg_ne h hb (by decide))
theorem MapsO.seg {base : Nat} {w w' : World} {v : Value} {A : List AE} (h : MapsO base w w') (hs : SegA w v A) : SegA w' v A := by
  obtain ⟨S, ho, hS⟩ := h
  refine Seg.only hs ho fun g hg hm => ?_
  rcases hs.2 with ⟨hv, _⟩ | ⟨g', off, cap, cur, hv, _, hh, _⟩
  · rw [hv] at hg; cases hg
  · rw [hv] at hg
    obtain rfl : g' = g := by simpa [Value.ownBlock] using hg
    exact (hS _ hm).2 _ _ _ hh
theorem playF_many (room : Int) (a : Option Addr) (len cap : Nat) (w : World) (h : 40 < len) : Calls Try.prog 8 #[.int .i64 room, .slice a len cap] w fun e w' => e = .returned (.bool true) ∧ Below w.heap.size w w' := by
  have hl2 : (40 : Int) < (len : Int) := by omega
  go_enter Try.func8, Try.ntmps8
  go_wp2_with fail
  refine (awake49_ok _).mono ?_
  rintro e w1 ⟨rfl, hb⟩
  go_wp2_with fail
  go_ret
  exact ⟨rfl, hb⟩
theorem playF_bad (room : Int) (hz : room < 1 ∨ 256 < room) (a : Option Addr) (len cap : Nat) (w : World) (h : len ≤ 40) : Calls Try.prog 8 #[.int .i64 room, .slice a len cap] w fun e w' => e = .returned (.bool true) ∧ Below w.heap.size w w' := by
  have hl2 : ¬ (40 : Int) < (len : Int) := by omega
  have HN := Lib.hid (fnew_bad room hz w)
  have HA := Lib.hid (awake49_ok w)
  by_cases h1 : room < 1
  · clear hz
    go_enter Try.func8, Try.ntmps8
    go_wp2_with fail
    refine HN.out.mono ?_
    rintro e w2 ⟨rfl, rfl⟩
    go_wp2_with fail
    refine HA.out.mono ?_
    rintro e w1 ⟨rfl, hb⟩
    go_wp2_with fail
    go_ret
    exact ⟨rfl, hb⟩
  · have h2 : 256 < room := by omega
    clear hz
    go_enter Try.func8, Try.ntmps8
    go_wp2_with fail
    refine HN.out.mono ?_
    rintro e w2 ⟨rfl, rfl⟩
    go_wp2_with fail
    refine HA.out.mono ?_
    rintro e w1 ⟨rfl, hb⟩
    go_wp2_with fail
    go_ret
    exact ⟨rfl, hb⟩
/-- How all lies in the law's loop. -/
structure PlF (W : World) (bj bm b7 : Nat) (room : Int) (v : Value) (A : List AE) (w : World) : Prop where
  b : Below W.heap.size W w
  j : JnA W.heap.size w bj bm room A
  d : SegA w v A
  k : Blk w b7 #[.int .i64 room, v] 80
  g : GA room A
  lo : W.heap.size ≤ b7
theorem PlF.chain {W w w' : World} {bj bm b7 : Nat} {room : Int} {v : Value} {A : List AE} (h : PlF W bj bm b7 room v A w) (hb : Below w.heap.size w w') : PlF W bj bm b7 room v A w' := ⟨Below.chain hb h.b, h.j.chain hb, h.d.chain hb, h.k.below hb h.k.lt, h.g, h.lo⟩
/-- Behind the document's Put: its answer lies in a cell of its own. -/
structure PutF (W : World) (bj bm b7 : Nat) (room : Int) (v : Value) (A : List AE) (R : PutR) (v' : Value) (w : World) : Prop where
  p : PlF W bj bm b7 room v A w
  d : SegA w v' R.A
  g : GA room R.A
theorem PutF.chain {W w w' : World} {bj bm b7 : Nat} {room : Int} {v v' : Value} {A : List AE} {R : PutR} (h : PutF W bj bm b7 room v A R v' w) (hb : Below w.heap.size w w') : PutF W bj bm b7 room v A R v' w' := ⟨h.p.chain hb, h.d.chain hb, h.g⟩
def DidF (W : World) (bj bm b7 : Nat) (room : Int) (v : Value) (A : List AE) (R : PutR) (wx : World) (b9 : Nat) : Prop := ∃ v', PutF W bj bm b7 room v A R v' wx ∧ Blk wx b9 #[.int .i64 room, v'] 80
theorem didF_a {W w5 : World} {bj bm b7 : Nat} {room : Int} {v v' : Value} {A : List AE} {R : PutR} (h : PutF W bj bm b7 room v A R v' w5) : DidF W bj bm b7 room v A R (w5.alloc (.cells #[.int .i64 room, v'] 80)) w5.heap.size := ⟨v', h.chain (Below.chainAlloc (Below.refl _ _) _), Blk.new _ _ _⟩
theorem didF_b {W w5 : World} {bj bm b7 b9 : Nat} {room : Int} {v v' u0 u1 : Value} {A : List AE} {R : PutR} (h : PutF W bj bm b7 room v A R v' w5) (kn : Blk w5 b9 #[u0, u1] 80) (hne : b7 < b9) : DidF W bj bm b7 room v A R ((w5.setCell ⟨b9, 0, none⟩ (.int .i64 room)).setCell ⟨b9, 1, none⟩ v') b9 := by
  have kn1 := kn.setAt 0 (.int .i64 room) rfl
  have hlo := h.p.lo
  exact ⟨v', ⟨⟨(h.p.b.setCell (by show W.heap.size ≤ b9; omega) _).setCell (by show W.heap.size ≤ b9; omega) _, (h.p.j.storeJ kn 0 _).storeJ kn1 1 _, (h.p.d.storeJ kn 0 _).storeJ kn1 1 _, (h.p.k.setOther _ _ (by simp; omega)).setOther _ _ (by simp; omega), h.p.g, h.p.lo⟩, (h.d.storeJ kn 0 _).storeJ kn1 1 _, h.g⟩, kn1.setAt 1 v' rfl⟩
theorem PlF.put {W w : World} {bj bm b7 : Nat} {room : Int} {v : Value} {A : List AE} (h : PlF W bj bm b7 room v A w) (s : List UInt8) (hs : s.length ≤ 1000) :
    Calls Try.prog 37 #[.agg #[.int .i64 room, v], Str s] w fun e w5 => ∃ a1 c1, e = .returned (.tuple #[.agg #[.int .i64 room, .slice a1 (putA room A s).A.length c1], Str (putA room A s).t, .bool (putA room A s).ok, .int .i64 (putA room A s).err]) ∧ PutF W bj bm b7 room v A (putA room A s) (.slice a1 (putA room A s).A.length c1) w5 ∧ Below w.heap.size w w5 := by
  obtain ⟨hc, hg⟩ := rput49 s room w h.d h.g hs
  refine hc.mono ?_
  rintro e w5 ⟨v', rfl, hd, _, hb⟩
  obtain ⟨a1, c1, rfl⟩ := Seg.form hd
  exact ⟨a1, c1, rfl, ⟨h.chain hb, hd, hg⟩, hb⟩
/-- Behind both: the loop's state, the joiner still to be asked. -/
structure MidF (W : World) (bj bm b7 : Nat) (room : Int) (A : List AE) (R : PutR) (v' : Value) (w : World) : Prop where
  b : Below W.heap.size W w
  j : JnA W.heap.size w bj bm room A
  d : SegA w v' R.A
  k : Blk w b7 #[.int .i64 room, v'] 80
  g : GA room R.A
  lo : W.heap.size ≤ b7
theorem DidF.mid {W wx : World} {bj bm b7 b9 : Nat} {room : Int} {v : Value} {A : List AE} {R : PutR} (h : DidF W bj bm b7 room v A R wx b9) : ∃ a1 c1, Blk wx b9 #[.int .i64 room, .slice a1 R.A.length c1] 80 ∧ Blk wx b7 #[.int .i64 room, v] 80 ∧
    MidF W bj bm b7 room A R (.slice a1 R.A.length c1) ((wx.setCell ⟨b7, 0, none⟩ (.int .i64 room)).setCell ⟨b7, 1, none⟩ (.slice a1 R.A.length c1)) := by
  obtain ⟨v', h, k9⟩ := h
  obtain ⟨a1, c1, rfl⟩ := Seg.form h.d
  have k7 := h.p.k
  have k71 := k7.setAt 0 (.int .i64 room) rfl
  have hlo := h.p.lo
  exact ⟨a1, c1, k9, k7, ⟨(h.p.b.setCell hlo _).setCell hlo _, (h.p.j.storeJ k7 0 _).storeJ k71 1 _, (h.d.storeJ k7 0 _).storeJ k71 1 _, k71.setAt 1 _ rfl, h.g, hlo⟩⟩
theorem MidF.chain {W w w' : World} {bj bm b7 : Nat} {room : Int} {A : List AE} {R : PutR} {v : Value} (h : MidF W bj bm b7 room A R v w) (hb : Below w.heap.size w w') : MidF W bj bm b7 room A R v w' := ⟨Below.chain hb h.b, h.j.chain hb, h.d.chain hb, h.k.below hb h.k.lt, h.g, h.lo⟩
theorem MidF.put {W w : World} {bj bm b7 : Nat} {room : Int} {A : List AE} {v : Value} {s : List UInt8} (h : MidF W bj bm b7 room A (putA room A s) v w) (hs : s.length ≤ 1000) :
    Calls Try.prog 38 #[.pointer (some ⟨bj, 0, none⟩), Str s] w fun x w' => x = .returned (.tuple #[Str (putA room A s).t, .bool (putA room A s).ok, .int .i64 (putA room A s).err]) ∧ PlF W bj bm b7 room v (putA room A s).A w' := by
  refine (fput_any s W.heap.size bj bm room A w h.j h.b.size hs).mono ?_
  rintro x w' ⟨rfl, hj, hm⟩
  exact ⟨rfl, Below.trans h.b (hm.below h.b.size), hj, hm.seg h.d, hm.blk h.k, h.g, h.lo⟩
theorem PlF.len {W w : World} {bj bm b7 : Nat} {room : Int} {A : List AE} {v : Value} (h : PlF W bj bm b7 room v A w) : Calls Try.prog 39 #[.pointer (some ⟨bj, 0, none⟩)] w fun e w' => e = .returned (.int .i64 (A.length : Nat)) ∧ w = w' := by
  obtain ⟨es, hj, he, _⟩ := h.j
  have := flen_any bj bm room es w hj
  rw [← he, List.length_map]
  exact this
theorem playF_good (room : Int) (hz1 : 1 ≤ room) (hz2 : room ≤ 256) (a : Option Addr) (cap : Nat) (l : List (List UInt8)) (w : World) (hz : SlAt w.heap.size w 9 (.slice a l.length cap) (l.map Str)) (h : l.length ≤ 40) : Calls Try.prog 8 #[.int .i64 room, .slice a l.length cap] w fun e w' => e = .returned (.bool true) ∧ Below w.heap.size w w' := by
  have hl2 : ¬ (40 : Int) < (l.length : Int) := by omega
  have h1 : ¬ room < 1 := by omega
  have h2 : ¬ 256 < room := by omega
  have HZ := Lib.hid hz
  have HL := Lib.hid h
  have HR := Lib.hid (And.intro hz1 hz2)
  have HN := Lib.hid (fnew_ok room hz1 hz2 w)
  have hbnd := hz
  clear hz h hz1 hz2
  go_enter Try.func8, Try.ntmps8
  go_wp2_with fail
  refine HN.out.mono ?_
  rintro e w1 ⟨rfl, hj, hb⟩
  have hja : JnA w.heap.size w1 (w.heap.size + 1) w.heap.size room [] := ⟨[], hj, rfl, Nat.le_refl _, by simp, by simp⟩
  have hBA := Below.chainAlloc hb (.cells #[.int .i64 room, .slice none 0 0] 80)
  have HP : Hid (PlF w (w.heap.size + 1) w.heap.size w1.heap.size room (.slice none 0 0) [] (w1.alloc (.cells #[.int .i64 room, .slice none 0 0] 80))) := Lib.hid ⟨hBA, hja.chain (Below.chainAlloc (Below.refl _ _) _), Seg.nil _ _ _ _, Blk.new _ _ _, ⟨by simp, by simp, by simp; have := HR.out; omega, HR.out.1, HR.out.2⟩, hb.size⟩
  clear hj hja hBA hb HN
  go_wp2_with fail
  generalize w1.alloc (.cells #[.int .i64 room, .slice none 0 0] 80) = W1 at *
  generalize w1.heap.size = b7 at *
  generalize w.heap.size + 1 = bj at *
  generalize hbm : w.heap.size = bm at HP
  clear h1 h2
  go_loopw [8] (fun i wr => ∃ (k : Nat) (A : List AE) (v : Value), k ≤ l.length ∧ i = .int .i64 (k : Nat) ∧ Hid (PlF w bj bm b7 room v A wr)) (fun i _ => l.length - (intOf i).toNat)
  case atStart => exact ⟨0, _, _, Nat.zero_le _, rfl, HP⟩
  case round =>
    clear HP
    obtain ⟨k, A, v, hk, rfl, HP⟩ := hrel
    by_cases hlt : k < l.length
    · obtain ⟨al, cl, ea, hmax, hat⟩ := strs_at HZ.out
      cases ea
      obtain ⟨g, off, rfl, hg, hcell⟩ := hat k hlt
      obtain ⟨t, ht⟩ : ∃ t, l[k] = t := ⟨_, rfl⟩
      rw [ht] at hcell
      have hlt' : (k : Int) < (l.length : Int) := Int.ofNat_lt.2 hlt
      have hk0 : (0 : Int) ≤ (k : Int) := by omega
      have HK := Lib.hid hlt
      have HCELL : Hid (∀ w', Below w.heap.size w w' → w'.cell? ⟨g, off + k, none⟩ = some (Str t)) := Lib.hid fun w' hb => (hb.cell (p := ⟨g, _, none⟩) hg).trans hcell
      have e0 := HCELL.out _ HP.out.b
      have hkw := kw49 k l.length hlt (Nat.le_trans HL.out (by decide))
      have HKW := Lib.hid hkw
      have HGW := Lib.hid hg
      clear hat hcell ht hg hmax hkw
      by_cases h300 : 300 < t.length
      · have h301 : (300 : Int) < (t.length : Int) := by omega
        have hkw := HKW.out
        clear h300 hlt
        go_wp2_with fail
        refine ⟨⟨k + 1, A, v, HK.out, ?_, HP⟩, ?_⟩
        · (try rw [hkw]); clear hkw; go_num
        · (try rw [hkw]); clear hkw; have := HK.out; simp [intOf]; omega
      · have h301 : ¬ (300 : Int) < (t.length : Int) := by omega
        have HT : Hid (t.length ≤ 1000) := Lib.hid (by omega)
        obtain ⟨R, hR⟩ : ∃ R, putA room A t = R := ⟨_, rfl⟩
        have HDA := Lib.hid ((HP.out.chain (Below.refl _ wr).drew).put t HT.out)
        have HDB := Lib.hid ((HP.out.chain (Below.chainAlloc (Below.refl _ wr) (.cells #[.int .i64 0, .slice none 0 0] 80)).drew).put t HT.out)
        rw [hR] at HDA HDB
        have HRR := Lib.hid hR
        obtain ⟨av, cv, rfl⟩ := Seg.form HP.out.d
        have hgr : g < wr.heap.size := Nat.lt_of_lt_of_le HGW.out HP.out.b.size
        have k7 := HP.out.k
        obtain ⟨X7, Y7, Z7⟩ := k7.facts
        have s0 := X7 0
        have s1 := X7 1
        have fs0 := Y7 0
        have fs1 := Y7 1
        clear k7 X7 Y7 h300 hlt hR
        go_upto_region 13 with fail
        go_cut [9, 10, 11, 12] (fun v9 v10 v11 v12 wx => ∃ b9 : Nat, v9 = .pointer (some ⟨b9, 0, none⟩) ∧ v10 = Str R.t ∧ v11 = .bool R.ok ∧ v12 = .int .i64 R.err ∧ Hid (DidF w bj bm b7 room (.slice av A.length cv) A R wx b9))
        case first =>
          go_region_law (first
            | (go_simp; go_at_call 37; with_reducible refine HDA.out.mono ?_; rintro e w5 ⟨a1, c1, rfl, hp, hb⟩; have HE := Lib.hid (And.intro hp hb); clear hp hb)
            | (go_simp; go_at_call 37; with_reducible refine HDB.out.mono ?_; rintro e w5 ⟨a1, c1, rfl, hp, hb⟩; have kn := (Blk.new wr #[.int .i64 0, .slice none 0 0] 80).drew.below hb (Blk.new wr #[.int .i64 0, .slice none 0 0] 80).drew.lt; have HE := Lib.hid (And.intro hp kn); have y0 := kn.facts.1 0; have y1 := kn.facts.1 1; have fy0 := kn.facts.2.1 0; have fy1 := kn.facts.2.1 1; clear hp hb kn))
          all_goals
            go_wp2_with fail
            go_meet
            first
              | with_reducible exact ⟨_, rfl, rfl, rfl, rfl, Lib.hid (didF_a HE.out.1)⟩
              | exact ⟨_, rfl, rfl, rfl, rfl, Lib.hid (didF_b HE.out.1 HE.out.2 Z7)⟩
        case rest =>
          obtain ⟨b9, rfl, rfl, rfl, rfl, HDD⟩ := hcut
          obtain ⟨a1, c1, k9, k7, hmid⟩ := HDD.out.mid
          have HM := Lib.hid hmid
          clear hmid HDD HDA HDB Z7 s0 s1 fs0 fs1 e0 hgr HP
          obtain ⟨X9, Y9, Z9⟩ := k9.facts
          have y0 := X9 0
          have y1 := X9 1
          have fy0 := Y9 0
          have fy1 := Y9 1
          obtain ⟨X7, Y7, Z7⟩ := k7.facts
          have s0 := X7 0
          have s1 := X7 1
          have fs0 := Y7 0
          have fs1 := Y7 1
          clear k9 X9 Y9 k7 X7 Y7
          go_upto_region 15 with fail
          clear Z9 y0 y1 fy0 fy1 Z7 s0 s1 fs0 fs1
          generalize (wc.setCell ⟨b7, 0, none⟩ (.int .i64 room)).setCell ⟨b7, 1, none⟩ (.slice a1 R.A.length c1) = W3 at *
          have e0 := HCELL.out _ HM.out.b
          have HJP : Hid (Calls Try.prog 38 #[.pointer (some ⟨bj, 0, none⟩), Str t] W3 fun x w' => x = .returned (.tuple #[Str R.t, .bool R.ok, .int .i64 R.err]) ∧ PlF w bj bm b7 room (.slice a1 R.A.length c1) R.A w') := Lib.hid (by
            have h := HM.out
            have hr := HRR.out
            subst hr
            exact h.put HT.out)
          go_wp2_with fail
          refine HJP.out.mono ?_
          rintro e w4 ⟨rfl, hpl⟩
          have HP4 := Lib.hid hpl
          have HLN : Hid (∀ w', Below w4.heap.size w4 w' → Calls Try.prog 39 #[.pointer (some ⟨bj, 0, none⟩)] w' fun e w'' => e = .returned (.int .i64 (R.A.length : Nat)) ∧ Below w'.heap.size w' w'') := Lib.hid fun w' hb => by
            refine (HP4.out.chain hb).len.mono ?_
            rintro e w'' ⟨rfl, rfl⟩
            exact ⟨rfl, Below.refl _ _⟩
          have HMK : Hid (∀ w', Below w4.heap.size w4 w' → (w'.cell? ⟨b7, 1, none⟩ = some (.slice a1 R.A.length c1)) ∧ Below w4.heap.size w4 w') := Lib.hid fun w' hb => ⟨(HP4.out.chain hb).k.facts.1 1, hb⟩
          clear hpl HJP HM e0 HRR
          generalize R.A.length = n2 at HLN HMK ⊢
          generalize R.t = rt at *
          generalize R.ok = rok at *
          generalize R.err = rerr at *
          go_wp2_with fail
          go_region_held3 (fun w' => (w'.cell? ⟨b7, 1, none⟩ = some (.slice a1 n2 c1)) ∧ Below w4.heap.size w4 w')
            (first
              | exact HMK.out _ (Below.refl _ _).drew
              | exact HMK.out _ (Below.refl _ _)
              | (go_split_ands; exact HMK.out _ (Below.chain hb (by assumption))))
            ((first
              | (go_at_call 39; refine (HLN.out _ (by (go_split_ands; assumption))).mono ?_; rintro e wy ⟨rfl, hb⟩)))
          have hbW : Below w4.heap.size w4 wy := by first | assumption | (go_split_ands; assumption)
          have HPy := Lib.hid (HP4.out.chain hbW)
          have hkw := HKW.out
          clear hbW HLN HMK
          go_wp2_with fail
          refine ⟨⟨k + 1, R.A, _, HK.out, ?_, HPy⟩, ?_⟩
          · (try rw [hkw]); clear hkw; go_num
          · (try rw [hkw]); clear hkw; have := HK.out; simp [intOf]; omega
    · obtain rfl : k = l.length := Nat.le_antisymm hk (Nat.le_of_not_lt hlt)
      have hlt' : ¬ (l.length : Int) < (l.length : Int) := Int.lt_irrefl _
      have HB := Lib.hid HP.out.b
      clear hk hlt
      go_wp2_with fail
      refine (awake49_ok _).mono ?_
      rintro e w8 ⟨rfl, hb⟩
      have HB8 := Lib.hid (Below.chain hb HB.out)
      clear hb
      go_wp2_with fail
      go_ret
      exact ⟨rfl, HB8.out⟩
end Go.Proofs.Ytgfbhclkpephnaa
