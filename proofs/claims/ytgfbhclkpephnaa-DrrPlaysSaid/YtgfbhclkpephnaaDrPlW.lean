/-
  Whose turn it is: the walk of the law DrrPlays (chapter 17).
-/
import Derived.Test.YtgfbhclkpephnaaDrE9
import Derived.Test.YtgfbhclkpephnaaLift3
import Derived.Test.YtgfbhclkpephnaaFlat
namespace Go.Proofs.Ytgfbhclkpephnaa
open Go Go.RowKit
set_option linter.unusedVariables false
set_option linter.unusedSimpArgs false
set_option maxRecDepth 100000
set_option maxHeartbeats 4000000
open Go.ChangeShapes Go.WideShapes Go.ChangeAt
def dc17 (d : Int × Int × Int) : List Value := [.int .i64 d.1, .int .i64 d.2.1, .int .i64 d.2.2]
theorem open_dc17 {H : Type} {enc : TypeId × Value → H} {W : World} {b : Nat} {sp : Nat → Bool} {hd : Bool} {a : Option Addr} {len cap : Nat} {d : DataW H} {p : List MemPlace}
    (h : DataW.Trod enc Try.prog W b sp hd 22 (.slice a len cap) d p) : ∃ ds : List (Int × Int × Int), IsRows 3 dc17 W a len cap ds := by
  obtain ⟨ds, h1, _⟩ := open_rows 3 dc17 (fun _ => True) Try.underlying22 (by kernel_rfl) (by decide) h fun cs m x hx => by
    have := flat_fits 9 m 37 [.int .i64, .int .i64, .int .i64] cs x (by kernel_rfl) hx
    obtain ⟨_, _, rfl, ⟨k, rfl, wk⟩, _, _, rfl, ⟨z0, rfl, w0⟩, _, _, rfl, ⟨z1, rfl, w1⟩, rfl⟩ := this
    exact ⟨(k, z0, z1), rfl, trivial⟩
  exact ⟨ds, h1⟩
theorem IsRows.get17 {α : Type} {size : Nat} {encd : α → List Value} {w : World} {a : Option Addr} {len cap : Nat} {ds : List α} (h : IsRows size encd w a len cap ds) (k : Nat) (hk : k < len) :
    ∃ (g off : Nat) (hk' : k < ds.length), a = some ⟨g, off, none⟩ ∧ g < w.heap.size ∧ ∀ j, j < size → w.cell? ⟨g, off + k * size + j, none⟩ = (encd ds[k])[j]? := by
  obtain ⟨h1, _, _, h4⟩ := h
  obtain ⟨g, off, ha, hg, hc⟩ := h4.resolve_left (by omega)
  exact ⟨g, off, by omega, ha, hg, fun j hj => hc k (by omega) j hj⟩
theorem play17_many (z : Int) (a : Option Addr) (len cap : Nat) (w : World) (h : 80 < len) : Calls Try.prog 3 #[.int .i64 z, .slice a len cap] w fun e w' => e = .returned (.bool true) ∧ Below w.heap.size w w' := by
  have hl2 : (80 : Int) < (len : Int) := by omega
  go_enter Try.func3, Try.ntmps3
  go_wp2_with fail
  refine (awake17_ok _).mono ?_
  rintro e w1 ⟨rfl, hb⟩
  go_wp2_with fail
  go_ret
  exact ⟨rfl, hb⟩
theorem play17_bad (z : Int) (hz : z < 1 ∨ 65536 < z) (a : Option Addr) (len cap : Nat) (w : World) (h : len ≤ 80) : Calls Try.prog 3 #[.int .i64 z, .slice a len cap] w fun e w' => e = .returned (.bool true) ∧ Below w.heap.size w w' := by
  have hl2 : ¬ (80 : Int) < (len : Int) := by omega
  have HN := Lib.hid (dnew_bad z hz w)
  have HA := Lib.hid (awake17_ok w)
  by_cases h1 : z < 1
  · clear hz
    go_enter Try.func3, Try.ntmps3
    go_wp2_with fail
    refine HN.out.mono ?_
    rintro e w2 ⟨rfl, rfl⟩
    go_wp2_with fail
    refine HA.out.mono ?_
    rintro e w1 ⟨rfl, hb⟩
    go_wp2_with fail
    go_ret
    exact ⟨rfl, hb⟩
  · have h2 : 65536 < z := by omega
    clear hz
    go_enter Try.func3, Try.ntmps3
    go_wp2_with fail
    refine HN.out.mono ?_
    rintro e w2 ⟨rfl, rfl⟩
    go_wp2_with fail
    refine HA.out.mono ?_
    rintro e w1 ⟨rfl, hb⟩
    go_wp2_with fail
    go_ret
    exact ⟨rfl, hb⟩
/-- How all lies in the law's loop. -/
structure Pl17 (W : World) (bs b7 : Nat) (S : PS) (F : List Nat) (qv rv : Value) (ls : List Value) (w : World) : Prop where
  j : Joint W bs S F qv rv ls w
  k : Blk w b7 #[.int .i64 S.quantum, qv, rv] 31
  m : b7 ∈ F
  lo : W.heap.size ≤ b7
theorem Pl17.chain {W w w' : World} {bs b7 : Nat} {S : PS} {F : List Nat} {qv rv : Value} {ls : List Value} (h : Pl17 W bs b7 S F qv rv ls w) (hb : Below w.heap.size w w') : Pl17 W bs b7 S F qv rv ls w' := ⟨h.j.chain hb, h.k.below hb h.k.lt, h.m, h.lo⟩
/-- Behind a deed: the answer lies in a cell of its own. -/
def Did (W : World) (bs b7 : Nat) (S : PS) (qv rv : Value) (n : Nat) (wx : World) (b9 : Nat) : Prop :=
  ∃ S' F' qv' rv' ls', Joint W bs S' F' qv' rv' ls' wx ∧ Blk wx b9 #[.int .i64 S'.quantum, qv', rv'] 31 ∧ Blk wx b7 #[.int .i64 S.quantum, qv, rv] 31 ∧ b7 ∈ F' ∧ totQ S'.qs ≤ n
theorem Did.next {W : World} {bs b7 b9 n : Nat} {S : PS} {qv rv : Value} {wx : World} (h : Did W bs b7 S qv rv n wx b9) (hlo : W.heap.size ≤ b7) : ∃ S' F' a1 c1 a2 c2 ls', Blk wx b9 #[.int .i64 S'.quantum, .slice a1 S'.qs.length c1, .slice a2 S'.round.length c2] 31 ∧ Blk wx b7 #[.int .i64 S.quantum, qv, rv] 31 ∧ totQ S'.qs ≤ n ∧
    Pl17 W bs b7 S' F' (.slice a1 S'.qs.length c1) (.slice a2 S'.round.length c2) ls' (((wx.setCell ⟨b7, 0, none⟩ (.int .i64 S'.quantum)).setCell ⟨b7, 1, none⟩ (.slice a1 S'.qs.length c1)).setCell ⟨b7, 2, none⟩ (.slice a2 S'.round.length c2)) := by
  obtain ⟨S', F', qv', rv', ls', hj, h9, h7, hm, ht⟩ := h
  obtain ⟨a1, c1, rfl⟩ := hj.d.2.1.form
  obtain ⟨a2, c2, rfl⟩ := hj.d.2.2.2.form
  have ho := only_ret1 b7 wx (.int .i64 S'.quantum) (.slice a1 S'.qs.length c1) (.slice a2 S'.round.length c2)
  have hal := hj.al.other (X := [b7]) (G := []) ho (fun y hy => by rw [List.mem_singleton.1 hy]; exact ⟨hm, hlo⟩) (by simp)
  exact ⟨S', F', a1, c1, a2, c2, ls', h9, h7, ht, ⟨by simpa using hal, hj.d.keepS h7 ho, hj.i⟩, ((h7.setAt 0 (.int .i64 S'.quantum) rfl).setAt 1 (.slice a1 S'.qs.length c1) rfl).setAt 2 (.slice a2 S'.round.length c2) rfl, hm, hlo⟩
theorem did_a {W : World} {bs b7 n : Nat} {S S' : PS} {F' : List Nat} {qv rv qv' rv' : Value} {ls' : List Value} {w5 : World} (hj : Joint W bs S' F' qv' rv' ls' w5) (ht : totQ S'.qs ≤ n) (h7 : Blk w5 b7 #[.int .i64 S.quantum, qv, rv] 31) (hm : b7 ∈ F') :
    Did W bs b7 S qv rv n (w5.alloc (.cells #[.int .i64 S'.quantum, qv', rv'] 31)) w5.heap.size :=
  ⟨S', _, qv', rv', ls', hj.new _, Blk.new _ _ _, h7.alloc _, List.mem_cons_of_mem _ hm, ht⟩
theorem did_b {W : World} {bs b7 b9 n : Nat} {S S' : PS} {F' : List Nat} {qv rv qv' rv' u0 u1 u2 : Value} {ls' : List Value} {w5 : World} (hj : Joint W bs S' F' qv' rv' ls' w5) (ht : totQ S'.qs ≤ n) (h7 : Blk w5 b7 #[.int .i64 S.quantum, qv, rv] 31) (hm : b7 ∈ F') (kn : Blk w5 b9 #[u0, u1, u2] 31) (h9 : b9 ∈ F') (hne : b7 < b9) (hlo : W.heap.size ≤ b7) :
    Did W bs b7 S qv rv n (((w5.setCell ⟨b9, 0, none⟩ (.int .i64 S'.quantum)).setCell ⟨b9, 1, none⟩ qv').setCell ⟨b9, 2, none⟩ rv') b9 := by
  have ho := only_ret1 b9 w5 (.int .i64 S'.quantum) qv' rv'
  have hal := hj.al.other (X := [b9]) (G := []) ho (fun y hy => by rw [List.mem_singleton.1 hy]; exact ⟨h9, by omega⟩) (by simp)
  exact ⟨S', F', qv', rv', ls', ⟨by simpa using hal, hj.d.keepS kn ho, hj.i⟩, ((kn.setAt 0 _ rfl).setAt 1 _ rfl).setAt 2 _ rfl, h7.only ho (by simp; omega), hm, ht⟩
/-- A deed, from the loop's state. -/
theorem Pl17.deed {W w : World} {bs b7 : Nat} {S : PS} {F : List Nat} {qv rv : Value} {ls : List Value} (h : Pl17 W bs b7 S F qv rv ls w) (kd id wt : Int) (ht : totQ S.qs ≤ 60000) :
    Calls Try.prog 13 #[.pointer (some ⟨bs, 0, none⟩), docV S qv rv, .agg #[.int .i64 kd, .int .i64 id, .int .i64 wt]] w fun e w5 => ∃ S' F' a1 c1 a2 c2 ls', e = .returned (.tuple #[.agg #[.int .i64 S'.quantum, .slice a1 S'.qs.length c1, .slice a2 S'.round.length c2], .bool true]) ∧ Joint W bs S' F' (.slice a1 S'.qs.length c1) (.slice a2 S'.round.length c2) ls' w5 ∧ Keep F w w5 ∧ (∀ y ∈ F, y ∈ F') ∧ totQ S'.qs ≤ totQ S.qs + 1 ∧ Blk w5 b7 #[.int .i64 S.quantum, qv, rv] 31 ∧ b7 ∈ F' := by
  refine (do_any kd id wt w h.j ht).mono ?_
  rintro e w5 ⟨S', F', qv', rv', ls', rfl, hj, hk, hF, ht'⟩
  obtain ⟨a1, c1, rfl⟩ := hj.d.2.1.form
  obtain ⟨a2, c2, rfl⟩ := hj.d.2.2.2.form
  exact ⟨S', F', a1, c1, a2, c2, ls', rfl, hj, hk, hF, ht', hk.blk h.k h.m, hF _ h.m⟩
theorem play17_good (z : Int) (hz1 : 1 ≤ z) (hz2 : z ≤ 65536) (a : Option Addr) (len cap : Nat) (l : List (Int × Int × Int)) (w : World) (hz : IsRows 3 dc17 w a len cap l) (h : len ≤ 80) : Calls Try.prog 3 #[.int .i64 z, .slice a len cap] w fun e w' => e = .returned (.bool true) ∧ Below w.heap.size w w' := by
  have hl2 : ¬ (80 : Int) < (len : Int) := by omega
  have h1 : ¬ z < 1 := by omega
  have h2 : ¬ 65536 < z := by omega
  have HZ := Lib.hid hz
  have HL := Lib.hid h
  have HN := Lib.hid (al_new z hz1 hz2 w w [] (Below.refl _ _) (by simp))
  clear hz h hz1 hz2
  go_enter Try.func3, Try.ntmps3
  go_wp2_with fail
  refine HN.out.mono ?_
  rintro e w1 ⟨bs, rfl, hal, _⟩
  have hn := hal.new (.cells #[.int .i64 z, .slice none 0 0, .slice none 0 0] 31)
  have hd : DocR (w1.alloc (.cells #[.int .i64 z, .slice none 0 0, .slice none 0 0] 31)) (.slice none 0 0) (.slice none 0 0) [] (newP z) := DocR.mk' trivial (Seg.nil _ _ _ _) (Seg.nil _ _ _ _)
  have HP : Hid (Pl17 w bs w1.heap.size (newP z) [w1.heap.size] (.slice none 0 0) (.slice none 0 0) [] (w1.alloc (.cells #[.int .i64 z, .slice none 0 0, .slice none 0 0] 31))) := Lib.hid ⟨⟨hn, hd, by simp⟩, Blk.new _ _ _, List.mem_cons_self, hal.b.size⟩
  clear hn hd hal HN
  go_wp2_with fail
  generalize w1.alloc (.cells #[.int .i64 z, .slice none 0 0, .slice none 0 0] 31) = W1 at *
  generalize w1.heap.size = b7 at *
  clear h1 h2
  go_loopw [8] (fun i wr => ∃ (k : Nat) (S : PS) (F : List Nat) (qv rv : Value) (ls : List Value), k ≤ len ∧ i = .int .i64 (k : Nat) ∧ totQ S.qs ≤ k ∧ Hid (Pl17 w bs b7 S F qv rv ls wr)) (fun i _ => len - (intOf i).toNat)
  case atStart => exact ⟨0, _, _, _, _, _, Nat.zero_le _, rfl, Nat.le_refl _, HP⟩
  case round =>
    clear HP
    obtain ⟨k, S, F, qv, rv, ls, hk, rfl, htk, HP⟩ := hrel
    by_cases hlt : k < len
    · obtain ⟨g, off, hk', rfl, hg, hcell⟩ := HZ.out.get17 k hlt
      obtain ⟨c, hc⟩ : ∃ c, l[k] = c := ⟨_, rfl⟩
      rw [hc] at hcell
      obtain ⟨kd, id, wt⟩ := c
      have hlt' : (k : Int) < (len : Int) := Int.ofNat_lt.2 hlt
      have hk0 : (0 : Int) ≤ (k : Int) := by omega
      have HK := Lib.hid hlt
      have HG := Lib.hid hg
      have HCELL : Hid (∀ w', Below w.heap.size w w' → w'.cell? ⟨g, off + k * 3, none⟩ = some (.int .i64 kd) ∧ w'.cell? ⟨g, off + k * 3 + 1, none⟩ = some (.int .i64 id) ∧ w'.cell? ⟨g, off + k * 3 + 2, none⟩ = some (.int .i64 wt)) := Lib.hid fun w' hb => ⟨(hb.cell (p := ⟨g, _, none⟩) hg).trans (hcell 0 (by decide)), (hb.cell (p := ⟨g, _, none⟩) hg).trans (hcell 1 (by decide)), (hb.cell (p := ⟨g, _, none⟩) hg).trans (hcell 2 (by decide))⟩
      have HT : Hid (totQ S.qs ≤ 60000) := Lib.hid (by have := HL.out; omega)
      have HTK := Lib.hid htk
      have HDA := Lib.hid ((HP.out.chain (Below.refl _ wr).drew).deed kd id wt HT.out)
      have hpb : Pl17 w bs b7 S (wr.heap.size :: F) qv rv ls (wr.alloc (.cells #[.int .i64 0, .slice none 0 0, .slice none 0 0] 31)).drew := ⟨(HP.out.j.new _).chain (Below.refl _ _).drew, (HP.out.k.alloc _).drew, List.mem_cons_of_mem _ HP.out.m, HP.out.lo⟩
      have HDB := Lib.hid (hpb.deed kd id wt HT.out)
      obtain ⟨aq, cq, rfl⟩ := HP.out.j.d.2.1.form
      obtain ⟨ar, cr, rfl⟩ := HP.out.j.d.2.2.2.form
      unfold docV at HDA HDB
      have hgr : g < wr.heap.size := Nat.lt_of_lt_of_le hg HP.out.j.al.b.size
      clear hcell hc hlt hg htk hpb
      obtain ⟨e0, e1, e2⟩ := HCELL.out _ HP.out.j.al.b
      have k7 := HP.out.k
      obtain ⟨Xs, Ys, Zs⟩ := k7.facts
      have s0 := Xs 0
      have s1 := Xs 1
      have s2 := Xs 2
      have fs0 := Ys 0
      have fs1 := Ys 1
      have fs2 := Ys 2
      clear k7 Xs Ys
      go_upto_region 12 with fail
      go_cut [9, 10] (fun v9 v10 wx => ∃ b9 : Nat, v9 = .pointer (some ⟨b9, 0, none⟩) ∧ v10 = .bool true ∧ Hid (Did w bs b7 S (.slice aq S.qs.length cq) (.slice ar S.round.length cr) (k + 1) wx b9))
      case first =>
        go_region_law (first
          | (go_simp; go_at_call 13; with_reducible refine HDA.out.mono ?_; rintro e w5 ⟨S', F', a1, c1, a2, c2, ls', rfl, hj, hkp, hFF, htt, hb7, hm7⟩; have HE := Lib.hid (And.intro hj (And.intro htt (And.intro hb7 hm7))); clear hj hkp hFF htt hb7 hm7)
          | (go_simp; go_at_call 13; with_reducible refine HDB.out.mono ?_; rintro e w5 ⟨S', F', a1, c1, a2, c2, ls', rfl, hj, hkp, hFF, htt, hb7, hm7⟩; have kn := hkp.blk (Blk.new wr #[.int .i64 0, .slice none 0 0, .slice none 0 0] 31).drew List.mem_cons_self; have HE := Lib.hid (And.intro hj (And.intro htt (And.intro hb7 (And.intro hm7 (And.intro kn (hFF _ List.mem_cons_self)))))); have y0 := kn.facts.1 0; have y1 := kn.facts.1 1; have y2 := kn.facts.1 2; have fy0 := kn.facts.2.1 0; have fy1 := kn.facts.2.1 1; have fy2 := kn.facts.2.1 2; clear hj hkp hFF htt hb7 hm7 kn))
        all_goals
          go_wp2_with fail
          go_meet
          first
            | with_reducible exact ⟨_, rfl, rfl, Lib.hid (did_a HE.out.1 (Nat.le_trans HE.out.2.1 (Nat.succ_le_succ HTK.out)) HE.out.2.2.1 HE.out.2.2.2)⟩
            | exact ⟨_, rfl, rfl, Lib.hid (did_b HE.out.1 (Nat.le_trans HE.out.2.1 (Nat.succ_le_succ HTK.out)) HE.out.2.2.1 HE.out.2.2.2.1 HE.out.2.2.2.2.1 HE.out.2.2.2.2.2 Zs HP.out.lo)⟩
      case rest =>
        obtain ⟨b9, rfl, rfl, HDD⟩ := hcut
        obtain ⟨S', F', a1, c1, a2, c2, ls', h9, h7, htt, hpl⟩ := HDD.out.next HP.out.lo
        have HPL := Lib.hid hpl
        have HTT := Lib.hid htt
        have k9 := h9
        have k7 := h7
        clear h9 h7 hpl htt HDD HDA HDB Zs s0 s1 s2 fs0 fs1 fs2 e0 e1 e2 hgr HP HT HTK
        obtain ⟨Xy, Yy, Zy⟩ := k9.facts
        have y0 := Xy 0
        have y1 := Xy 1
        have y2 := Xy 2
        have fy0 := Yy 0
        have fy1 := Yy 1
        have fy2 := Yy 2
        obtain ⟨Xs, Ys, Zs⟩ := k7.facts
        have s0 := Xs 0
        have s1 := Xs 1
        have s2 := Xs 2
        have fs0 := Ys 0
        have fs1 := Ys 1
        have fs2 := Ys 2
        clear k9 Xy Yy k7 Xs Ys
        go_upto_region 14 with fail
        clear Zy y0 y1 y2 fy0 fy1 fy2 Zs s0 s1 s2 fs0 fs1 fs2
        generalize ((wc.setCell ⟨b7, 0, none⟩ (.int .i64 S'.quantum)).setCell ⟨b7, 1, none⟩ (.slice a1 S'.qs.length c1)).setCell ⟨b7, 2, none⟩ (.slice a2 S'.round.length c2) = W3 at *
        have hTl : totQ S'.qs ≤ 60000 := by
          have h1 := HTT.out
          have h2 := HL.out
          have h3 := HK.out
          omega
        have HC1 : Hid (∀ w', Below W3.heap.size W3 w' → Calls Try.prog 14 #[.pointer (some ⟨bs, 0, none⟩)] w' fun e w'' => e = .returned (.int .i64 (totQ S'.qs : Nat)) ∧ Below w'.heap.size w' w'') := Lib.hid fun w' hb => by
          refine (al_wait (HPL.out.j.al.chain hb)).mono ?_
          rintro e w'' ⟨rfl, rfl⟩
          exact ⟨rfl, Below.refl _ _⟩
        have HC2 : Hid (∀ w', Below W3.heap.size W3 w' → Calls Try.prog 15 #[.agg #[.int .i64 S'.quantum, .slice a1 S'.qs.length c1, .slice a2 S'.round.length c2]] w' fun e w'' => e = .returned (.int .i64 (totQ S'.qs : Nat)) ∧ Below w'.heap.size w' w'') := Lib.hid fun w' hb => rwait_any w' (HPL.out.j.d.chain hb) (Nat.le_trans HPL.out.j.al.ok.qlen (by decide)) hTl
        have HC3 : Hid (∀ w', Below W3.heap.size W3 w' → Calls Try.prog 16 #[.pointer (some ⟨bs, 0, none⟩), .int .i64 id] w' fun e w'' => e = .returned (.int .i64 (lenP id S' : Nat)) ∧ Below w'.heap.size w' w'') := Lib.hid fun w' hb => by
          refine (al_len id (HPL.out.j.al.chain hb)).mono ?_
          rintro e w'' ⟨rfl, rfl⟩
          exact ⟨rfl, Below.refl _ _⟩
        have HC4 : Hid (∀ w', Below W3.heap.size W3 w' → Calls Try.prog 17 #[.agg #[.int .i64 S'.quantum, .slice a1 S'.qs.length c1, .slice a2 S'.round.length c2], .int .i64 id] w' fun e w'' => e = .returned (.int .i64 (lenP id S' : Nat)) ∧ Below w'.heap.size w' w'') := Lib.hid fun w' hb => rlen_any id w' (HPL.out.j.d.chain hb) HPL.out.j.al.ok (Nat.le_trans HPL.out.j.al.ok.qlen (by decide))
        have HMK : Hid (∀ w', Below W3.heap.size W3 w' → (w'.cell? ⟨b7, 0, none⟩ = some (.int .i64 S'.quantum) ∧ w'.cell? ⟨b7, 1, none⟩ = some (.slice a1 S'.qs.length c1) ∧ w'.cell? ⟨b7, 2, none⟩ = some (.slice a2 S'.round.length c2) ∧ w'.cell? ⟨g, off + k * 3 + 1, none⟩ = some (.int .i64 id)) ∧ Below W3.heap.size W3 w') := Lib.hid fun w' hb =>
          ⟨⟨(HPL.out.chain hb).k.facts.1 0, (HPL.out.chain hb).k.facts.1 1, (HPL.out.chain hb).k.facts.1 2, (HCELL.out _ (HPL.out.chain hb).j.al.b).2.1⟩, hb⟩
        clear hTl
        generalize totQ S'.qs = tot at HC1 HC2
        generalize lenP id S' = lnn at HC3 HC4
        go_region_held3 (fun w' => (w'.cell? ⟨b7, 0, none⟩ = some (.int .i64 S'.quantum) ∧ w'.cell? ⟨b7, 1, none⟩ = some (.slice a1 S'.qs.length c1) ∧ w'.cell? ⟨b7, 2, none⟩ = some (.slice a2 S'.round.length c2) ∧ w'.cell? ⟨g, off + k * 3 + 1, none⟩ = some (.int .i64 id)) ∧ Below W3.heap.size W3 w')
          (first
            | exact HMK.out _ (Below.refl _ _).drew
            | exact HMK.out _ (Below.refl _ _)
            | (go_split_ands; exact HMK.out _ (Below.chain hb (by assumption))))
          ((first
            | (go_at_call 14; refine (HC1.out _ (by (go_split_ands; assumption))).mono ?_; rintro e wy ⟨rfl, hb⟩)
            | (go_at_call 15; refine (HC2.out _ (by (go_split_ands; assumption))).mono ?_; rintro e wy ⟨rfl, hb⟩)
            | (go_at_call 16; refine (HC3.out _ (by (go_split_ands; assumption))).mono ?_; rintro e wy ⟨rfl, hb⟩)
            | (go_at_call 17; refine (HC4.out _ (by (go_split_ands; assumption))).mono ?_; rintro e wy ⟨rfl, hb⟩)))
        have hbW : Below W3.heap.size W3 wy := by first | assumption | (go_split_ands; assumption)
        have HPy := Lib.hid (HPL.out.chain hbW)
        have hkw := kw17 k len HK.out (Nat.le_trans HL.out (by decide))
        clear hbW HC1 HC2 HC3 HC4 HMK
        go_wp2_with fail
        go_roundw
        case measure => (try rw [hkw]); clear hkw; have := HK.out; simp [intOf]; omega
        case rel => exact ⟨k + 1, S', F', _, _, ls', HK.out, by (try rw [hkw]); clear hkw; go_num, HTT.out, HPy⟩
    · obtain rfl : k = len := Nat.le_antisymm hk (Nat.le_of_not_lt hlt)
      have hlt' : ¬ (k : Int) < (k : Int) := Int.lt_irrefl _
      have HB := Lib.hid HP.out.j.al.b
      clear hk hlt htk
      go_wp2_with fail
      refine (awake17_ok _).mono ?_
      rintro e w8 ⟨rfl, hb⟩
      have HB8 := Lib.hid (Below.chain hb HB.out)
      clear hb
      go_wp2_with fail
      go_ret
      exact ⟨rfl, HB8.out⟩
theorem play17_walk (z : Int) (a : Option Addr) (len cap : Nat) (l : List (Int × Int × Int)) (w : World) (hz : IsRows 3 dc17 w a len cap l) : Calls Try.prog 3 #[.int .i64 z, .slice a len cap] w fun e w' => e = .returned (.bool true) ∧ Below w.heap.size w w' := by
  by_cases h : 80 < len
  · exact play17_many z a len cap w h
  · by_cases h1 : z < 1 ∨ 65536 < z
    · exact play17_bad z h1 a len cap w (by omega)
    · exact play17_good z (by omega) (by omega) a len cap l w hz (by omega)
end Go.Proofs.Ytgfbhclkpephnaa
