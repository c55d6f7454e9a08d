/-
  Timers: Set, Drop, Next (chapter 13).
-/
import Derived.Test.YtphejbjbleeigaaTm1
import Derived.StillTailTactics
namespace Go.Proofs.Ytphejbjbleeigaa
open Go Go.RowKit
set_option linter.unusedVariables false
set_option maxRecDepth 100000
set_option maxHeartbeats 1000000
theorem tset_nil (k : Int × Int) (z : Int) (w : World) : Calls Try.prog 46 #[.pointer none, encK k, .int .i64 z] w fun e w' => e = .returned (.int .i64 17) ∧ Below w.heap.size w w' := by
  unfold encK
  go_enter Try.func46, Try.ntmps46
  go_wp2
  go_ret
  exact ⟨rfl, Below.chainAlloc (Below.refl _ _) _⟩
theorem tset_bad (k : Int × Int) (z : Int) (bt : Nat) (w : World) (hz : z < 0 ∨ 1099511627776 < z) : Calls Try.prog 46 #[.pointer (some ⟨bt, 0, none⟩), encK k, .int .i64 z] w fun e w' => e = .returned (.int .i64 2) ∧ Below w.heap.size w w' := by
  unfold encK
  rcases hz with hz | hz
  · go_enter Try.func46, Try.ntmps46
    go_wp2
    go_ret
    exact ⟨rfl, Below.chainAlloc (Below.refl _ _) _⟩
  · have hz2 : ¬ z < 0 := by omega
    go_enter Try.func46, Try.ntmps46
    go_wp2
    go_ret
    exact ⟨rfl, Below.chainAlloc (Below.refl _ _) _⟩
theorem tset_ok (d : Du) (bt bm : Nat) (ds : List Du) (w : World) (h : Tms w bt bm ds) (h0 : 0 ≤ d.at_) (h1 : d.at_ ≤ 1099511627776) :
    Calls Try.prog 46 #[.pointer (some ⟨bt, 0, none⟩), encK d.key, .int .i64 d.at_] w (TmPost (.int .i64 0) bt bm (setD d ds) w) := by
  obtain ⟨a, b, z⟩ := d
  have hB : Below w.heap.size w (w.alloc (.cells #[.int .i64 a, .int .u32 b] 69)) := Below.chainAlloc (Below.refl _ _) _
  have h' := h.chain hB
  obtain ⟨x1, x2, x3⟩ := h'.b.facts
  have y0 := x1 0
  obtain ⟨z1, _, _⟩ := (Blk.new w #[.int .i64 a, .int .u32 b] 69).facts
  have z0 := z1 0
  have z1 := z1 1
  obtain ⟨W, hW⟩ : ∃ W, w.alloc (.cells #[.int .i64 a, .int .u32 b] 69) = W := ⟨_, rfl⟩
  have hk : MapW encK W.drew bm (ds.map Du.mp) := hW ▸ h'.m
  obtain ⟨W', hrun, hm', ho⟩ := hk.put keyLaw und168 (a, b) (.int .i64 z)
  have hp := putM_mp (d := ⟨a, b, z⟩) (ds := ds)
  have hfin : Tms W' bt bm (setD ⟨a, b, z⟩ ds) := (hW ▸ h' : Tms W bt bm ds).only (Only.trans (Only.refl _ _).drew ho) (hp ▸ hm') rfl
  have hO : Only [bm] w W' := (Only.of_below hB).trans ((hW ▸ (Only.refl _ _).drew : Only [bm] (w.alloc (.cells #[.int .i64 a, .int .u32 b] 69)) W.drew).trans ho)
  have HF := Lib.hid (And.intro hfin hO)
  have HW := Lib.hid hW
  rw [hW] at y0 z0 z1
  clear hfin hO hp ho hm' hk h' h hB hW x1 x2 x3
  unfold encK Du.key at *
  dsimp only at *
  go_enter Try.func46, Try.ntmps46
  go_upto_region 5 with fail
  rw [HW.out]
  go_still_tail 6, (by kernel_rfl)
  change wpList _ _ _ _ _ W.drew
  go_wp2_with fail
  go_ret
  exact ⟨rfl, HF.out⟩
theorem tdrop_nil (k : Int × Int) (w : World) : Calls Try.prog 53 #[.pointer none, encK k] w fun e w' => e = .returned (.bool false) ∧ Below w.heap.size w w' := by
  have HC := Lib.hid (fun w' => tat_nil k w')
  obtain ⟨a, b⟩ := k
  unfold encK at *
  dsimp only at *
  go_enter Try.func53, Try.ntmps53
  go_wp2_with fail
  refine (HC.out _).mono ?_
  rintro e w1 ⟨rfl, hb⟩
  go_wp2_with fail
  go_ret
  exact ⟨rfl, Below.chain hb (Below.chainAlloc (Below.refl _ _) _)⟩
theorem tdrop_no (k : Int × Int) (bt bm : Nat) (ds : List Du) (w : World) (h : Tms w bt bm ds) (hk : atD k ds = none) :
    Calls Try.prog 53 #[.pointer (some ⟨bt, 0, none⟩), encK k] w (TmPost (.bool false) bt bm (dropD k ds) w) := by
  have HC : Hid (∀ w', Tms w' bt bm ds → Calls Try.prog 49 #[.pointer (some ⟨bt, 0, none⟩), encK k] w' fun e w2 => e = .returned (.tuple #[.int .i64 0, .bool false]) ∧ Below w'.heap.size w' w2) := Lib.hid (fun w' h' => by
    have := tat_any k bt bm ds w' h'
    rwa [hk] at this)
  have hd : dropD k ds = ds := dropD_self (atD_none.1 hk)
  rw [hd]
  obtain ⟨a, b⟩ := k
  have HH := Lib.hid h
  clear hd h hk
  unfold encK at *
  dsimp only at *
  go_enter Try.func53, Try.ntmps53
  go_wp2_with fail
  refine (HC.out _ (HH.out.chain (Below.chainAlloc (Below.refl _ _) _))).mono ?_
  rintro e w1 ⟨rfl, hb⟩
  have HB := Lib.hid (Below.chain hb (Below.chainAlloc (Below.refl _ _) _))
  clear hb
  go_wp2_with fail
  go_ret
  exact ⟨rfl, HH.out.chain HB.out, Only.of_below HB.out⟩
theorem tdrop_yes (k : Int × Int) (z : Int) (bt bm : Nat) (ds : List Du) (w : World) (h : Tms w bt bm ds) (hk : atD k ds = some z) :
    Calls Try.prog 53 #[.pointer (some ⟨bt, 0, none⟩), encK k] w (TmPost (.bool true) bt bm (dropD k ds) w) := by
  have HC : Hid (∀ w', Tms w' bt bm ds → Calls Try.prog 49 #[.pointer (some ⟨bt, 0, none⟩), encK k] w' fun e w2 => e = .returned (.tuple #[.int .i64 z, .bool true]) ∧ Below w'.heap.size w' w2) := Lib.hid (fun w' h' => by
    have := tat_any k bt bm ds w' h'
    rwa [hk] at this)
  obtain ⟨a, b⟩ := k
  have HH := Lib.hid h
  clear h hk
  unfold encK at *
  dsimp only at *
  go_enter Try.func53, Try.ntmps53
  go_wp2_with fail
  refine (HC.out _ (HH.out.chain (Below.chainAlloc (Below.refl _ _) _))).mono ?_
  rintro e w1 ⟨rfl, hb⟩
  have hB := Below.chain hb (Below.chainAlloc (Below.refl _ w) (.cells #[.int .i64 a, .int .u32 b] 69))
  have hkb := (Blk.new w #[.int .i64 a, .int .u32 b] 69).below hb (by rw [size_alloc]; omega)
  have h1 := HH.out.chain hB
  obtain ⟨x1, _, _⟩ := h1.b.facts
  have y0 := x1 0
  obtain ⟨z1, _, _⟩ := hkb.facts
  have z0 := z1 0
  have z1 := z1 1
  have hk : MapW encK w1.drew bm (ds.map Du.mp) := h1.m
  obtain ⟨W', hrun, hm', ho⟩ := hk.del keyLaw und168 (a, b)
  have HF := Lib.hid (And.intro (h1.only (Only.trans (Only.refl _ _).drew ho) hm' delM_mp) ((Only.of_below hB).trans ((Only.refl _ _).drew.trans ho)))
  unfold encK at hrun
  clear hb hB hkb h1 x1 hk hm' ho
  go_upto_region 3 with fail
  go_still_tail 5, (by kernel_rfl)
  change wpList _ _ _ _ _ w1.drew
  go_wp2_with fail
  go_ret
  exact ⟨rfl, HF.out⟩
theorem tnext_nil (w : World) : Calls Try.prog 50 #[.pointer none] w fun e w' => e = .returned (.tuple #[.int .i64 0, .bool false]) ∧ w = w' := by
  go_enter Try.func50, Try.ntmps50
  go_wp2
  go_ret2
  exact ⟨rfl, rfl⟩
theorem tnext_no (bt bm : Nat) (w : World) (h : Tms w bt bm []) : Calls Try.prog 50 #[.pointer (some ⟨bt, 0, none⟩)] w fun e w' => e = .returned (.tuple #[.int .i64 0, .bool false]) ∧ w = w' := by
  obtain ⟨x1, x2, x3⟩ := h.b.facts
  have y0 := x1 0
  have hl := h.m.len und168
  rw [show ((([] : List Du).map Du.mp).length : Int) = 0 from rfl] at hl
  clear x1 x2 h
  go_enter Try.func50, Try.ntmps50
  go_wp2_with fail
  go_ret2
  exact ⟨rfl, rfl⟩
/-- m is the least of all times. -/
def LeastD (m : Int) (ds : List Du) : Prop := (∀ d ∈ ds, m ≤ d.at_) ∧ (m = 1099511627776 ∨ ∃ d ∈ ds, m = d.at_)
def NextPost (ds : List Du) (w : World) (e : Ending) (w' : World) : Prop := ∃ m, e = .returned (.tuple #[.int .i64 m, .bool true]) ∧ LeastD m ds ∧ Below w.heap.size w w'
/-- So far. -/
def NextRel (r bm : Nat) (ds : List Du) (m : Int) (rest : List ((Int × Int) × Value)) (wr : World) : Prop :=
  RngW encK wr r bm (ds.map Du.mp) rest ∧ (∀ d ∈ ds, d.mp ∈ rest ∨ m ≤ d.at_) ∧ (m = 1099511627776 ∨ ∃ d ∈ ds, m = d.at_)
theorem NextRel.step {r bm : Nat} {ds : List Du} {m : Int} {rest : List ((Int × Int) × Value)} {wr w' : World} (h : NextRel r bm ds m rest wr) (hn : (ds.map Du.key).Nodup) {d : Du} (hd : d ∈ ds) (hr : RngW encK w' r bm (ds.map Du.mp) (delM d.key rest)) (m' : Int) (hm : m' = min m d.at_) :
    NextRel r bm ds m' (delM d.key rest) w' := by
  subst hm
  obtain ⟨_, h2, h3⟩ := h
  refine ⟨hr, fun x hx => ?_, ?_⟩
  · by_cases e : x.key = d.key
    · have := key_unique hn hx hd e
      subst this
      right; omega
    · rcases h2 x hx with h | h
      · left
        refine List.mem_filter.2 ⟨h, ?_⟩
        simp [Du.mp, e]
      · right; omega
  · by_cases hc : m ≤ d.at_
    · rw [show min m d.at_ = m by omega]; exact h3
    · exact .inr ⟨d, hd, by omega⟩
theorem delM_lt {x : Int × Int} {p : (Int × Int) × Value} : ∀ {l : List ((Int × Int) × Value)}, p ∈ l → p.1 = x → (delM x l).length < l.length
  | q :: l, hp, hx => by
    by_cases hq : q.1 = x
    · have : delM x (q :: l) = delM x l := by simp [delM, hq]
      rw [this]
      have := List.length_filter_le (fun p => !decide (p.1 = x)) l
      show (delM x l).length < l.length + 1
      unfold delM
      omega
    · have e : delM x (q :: l) = q :: delM x l := by simp [delM, hq]
      rw [e]
      rcases List.mem_cons.1 hp with rfl | hp
      · exact absurd hx hq
      · have := delM_lt hp hx
        simp only [List.length_cons]; omega
theorem tnext_any (bt bm : Nat) (ds : List Du) (w : World) (h : Tms w bt bm ds) (hne : 0 < ds.length) (hgood : ∀ d ∈ ds, 0 ≤ d.at_ ∧ d.at_ ≤ 1099511627776) :
    Calls Try.prog 50 #[.pointer (some ⟨bt, 0, none⟩)] w (NextPost ds w) := by
  obtain ⟨x1, x2, x3⟩ := h.b.facts
  have y0 := x1 0
  have hl := h.m.len und168
  rw [List.length_map] at hl
  obtain ⟨W, hrange, hrng, hbW⟩ := h.m.range und168
  have hn0 : ((ds.length : Int) == 0) = false := beq_eq_false_iff_ne.2 (by omega)
  have hn1 : ¬ (ds.length : Int) = 0 := by omega
  have HKEYS := Lib.hid h.keys
  have HGOOD := Lib.hid hgood
  have HST : Hid (NextRel w.heap.size bm ds 1099511627776 (ds.map Du.mp) W) := Lib.hid ⟨hrng, fun d hd => .inl (List.mem_map.2 ⟨d, hd, rfl⟩), .inl rfl⟩
  have HBW := Lib.hid hbW
  obtain ⟨r, hr⟩ : ∃ r, w.heap.size = r := ⟨_, rfl⟩
  rw [hr] at hrange HST
  have HRR := Lib.hid hr
  clear x1 x2 h hrng hbW hgood hr
  go_enter Try.func50, Try.ntmps50
  go_wp2_with fail
  go_loopg [4] ds.length (fun gk v wr => ∃ (m : Int) (rest : List ((Int × Int) × Value)), rest.length ≤ gk ∧ v = .int .i64 m ∧ Hid (NextRel r bm ds m rest wr) ∧ Hid (Below w.heap.size w wr))
  case atStart => exact ⟨_, _, by simp, rfl, HST, HBW⟩
  case round =>
    clear HST hrange HBW y0 hl
    obtain ⟨m, rest, hlen, rfl, HREL, HB⟩ := hrel
    rcases HREL.out.1.next keyLaw with ⟨h0, hrun⟩ | ⟨p, hp, w2, hrun, hent, hrng2, ho, hpl⟩
    · have HF : Hid (LeastD m ds) := Lib.hid ⟨fun d hd => (HREL.out.2.1 d hd).resolve_left (by rw [h0]; simp), HREL.out.2.2⟩
      clear h0
      go_wp2_with fail
      go_ret2
      exact ⟨m, rfl, HF.out, HB.out⟩
    · obtain ⟨d, hd, rfl⟩ := List.mem_map.1 hpl
      have hlt := delM_lt hp (show d.mp.1 = d.key from rfl)
      have HB2 : Hid (Below w.heap.size w w2) := Lib.hid (Below.only HB.out ho (by simp [HRR.out.symm]))
      obtain ⟨a, b, z⟩ := d
      by_cases hmz : m ≤ z
      · have HST2 := Lib.hid (HREL.out.step HKEYS.out hd hrng2 m (by show m = min m z; omega))
        unfold Du.mp encK Du.key at hrun hent
        unfold Du.key at HST2 hlt
        clear hp hrng2 ho hpl hd
        dsimp only at hrun hent HST2 hlt
        go_wp2_with fail
        go_roundg (delM (a, b) rest).length
        case measure => omega
        case rel => exact ⟨_, _, Nat.le_refl _, rfl, HST2, HB2⟩
      · have HST2 := Lib.hid (HREL.out.step HKEYS.out hd hrng2 z (by show z = min m z; omega))
        unfold Du.mp encK Du.key at hrun hent
        unfold Du.key at HST2 hlt
        clear hp hrng2 ho hpl hd
        dsimp only at hrun hent HST2 hlt
        go_wp2_with fail
        go_roundg (delM (a, b) rest).length
        case measure => omega
        case rel => exact ⟨_, _, Nat.le_refl _, rfl, HST2, HB2⟩
end Go.Proofs.Ytphejbjbleeigaa
