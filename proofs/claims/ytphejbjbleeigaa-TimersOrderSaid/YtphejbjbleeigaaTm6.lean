/-
  Timers: Due: what is due is collected, sorted, and deleted (chapter 13).
-/
import Derived.Test.YtphejbjbleeigaaTm5
namespace Go.Proofs.Ytphejbjbleeigaa
open Go Go.RowKit
set_option linter.unusedVariables false
set_option maxRecDepth 100000
set_option maxHeartbeats 4000000
theorem infoDue : (Try.prog.info? 96).map (fun i => (i.zero, i.size, i.bytes)) = some (some (.agg #[.int .i64 0, .int .u32 0, .int .i64 0]), 3, 24) := by kernel_rfl
theorem duS_len (ds : List Du) : (duS ds).length = ds.length * 3 := length_flat duC_len ds
theorem duS_snoc (ds : List Du) (d : Du) : duS (ds ++ [d]) = duS ds ++ duC d := by simp [duS]
theorem Tms.kept {w w' : World} {bt bm : Nat} {ds : List Du} {S : List Nat} (h : Tms w bt bm ds) (ho : Only S w w') (h1 : bt ∉ S) (h2 : bm ∉ S) : Tms w' bt bm ds := ⟨h.b.only ho h1, h.m.only ho h2, h.ne⟩
/-- A thing among others, cell by cell. -/
theorem Seg.du {w : World} {base g off cap : Nat} {ds : List Du} (h : Seg w base 96 3 (.slice (some ⟨g, off, none⟩) ds.length cap) ds.length (duS ds)) {m : Nat} (hm : m < ds.length) :
    w.cell? ⟨g, off + m * 3, none⟩ = some (.int .i64 ds[m].s) ∧ w.cell? ⟨g, off + m * 3 + 1, none⟩ = some (.int .u32 ds[m].b) ∧ w.cell? ⟨g, off + m * 3 + 2, none⟩ = some (.int .i64 ds[m].at_) := by
  have get : ∀ o (ho : o < 3), w.cell? ⟨g, off + m * 3 + o, none⟩ = (duC ds[m])[o]? := fun o ho => by
    have h2 := get_flat duC_len ds (m * 3 + o) (by omega)
    rw [Nat.add_assoc, h.at (m * 3 + o) (by omega)]
    show (duS ds)[m * 3 + o]? = _
    unfold duS
    rw [h2, show (m * 3 + o) / 3 = m by omega, show (m * 3 + o) % 3 = o by omega, List.getElem!_eq_getElem?_getD, List.getElem?_eq_getElem hm]
    rfl
  exact ⟨get 0 (by decide), get 1 (by decide), get 2 (by decide)⟩
theorem tdue_nil (z : Int) (w : World) : Calls Try.prog 48 #[.pointer none, .int .i64 z] w fun e w' => e = .returned (.slice none 0 0) ∧ w = w' := by
  go_enter Try.func48, Try.ntmps48
  go_wp2
  go_ret
  exact ⟨rfl, rfl⟩
/-- What was collected so far, what is still to come. -/
def ColRel (B r bm : Nat) (now : Int) (ds xs R : List Du) (v : Value) (wr : World) : Prop :=
  Seg wr B 96 3 v xs.length (duS xs) ∧ RngW encK wr r bm (ds.map Du.mp) (R.map Du.mp) ∧ (xs ++ R.filter (dueB now)).Perm (ds.filter (dueB now)) ∧ (R.map Du.key).Nodup ∧ xs.length + R.length ≤ ds.length
theorem drop_perm {R : List Du} {d : Du} (hn : (R.map Du.key).Nodup) (hd : d ∈ R) : R.Perm (d :: dropD d.key R) := by
  induction R with
  | nil => cases hd
  | cons x R ih =>
    rw [List.map_cons, List.nodup_cons] at hn
    rcases List.mem_cons.1 hd with rfl | hd
    · rw [dropD_cons_pos rfl, dropD_self (fun y hy e => hn.1 (by rw [← e]; exact List.mem_map.2 ⟨y, hy, rfl⟩))]
    · have hne : ¬ x.key = d.key := fun e => hn.1 (by rw [e]; exact List.mem_map.2 ⟨d, hd, rfl⟩)
      rw [dropD_cons_neg hne]
      exact ((ih hn.2 hd).cons x).trans (List.Perm.swap _ _ _)
theorem col_skip {now : Int} {ds xs R : List Du} {d : Du} (h : (xs ++ R.filter (dueB now)).Perm (ds.filter (dueB now))) (hn : (R.map Du.key).Nodup) (hd : d ∈ R) (hnd : dueB now d = false) :
    (xs ++ (dropD d.key R).filter (dueB now)).Perm (ds.filter (dueB now)) := by
  have h1 := (drop_perm hn hd).filter (dueB now)
  rw [List.filter_cons_of_neg (by simp [hnd])] at h1
  exact (List.Perm.append_left xs h1.symm).trans h
theorem col_take {now : Int} {ds xs R : List Du} {d : Du} (h : (xs ++ R.filter (dueB now)).Perm (ds.filter (dueB now))) (hn : (R.map Du.key).Nodup) (hd : d ∈ R) (hnd : dueB now d = true) :
    ((xs ++ [d]) ++ (dropD d.key R).filter (dueB now)).Perm (ds.filter (dueB now)) := by
  have h1 := (drop_perm hn hd).filter (dueB now)
  rw [List.filter_cons_of_pos hnd] at h1
  rw [List.append_assoc]
  exact (List.Perm.append_left xs h1.symm).trans h
theorem drop_keys {R : List Du} {k : Int × Int} (hn : (R.map Du.key).Nodup) : ((dropD k R).map Du.key).Nodup := List.Sublist.nodup ((List.filter_sublist).map _) hn
theorem drop_len {R : List Du} {d : Du} (hn : (R.map Du.key).Nodup) (hd : d ∈ R) : (dropD d.key R).length + 1 = R.length := by
  have := (drop_perm hn hd).length_eq
  simpa using this.symm
/-- The answer of Due. -/
def DuePost (now : Int) (bt bm : Nat) (ds : List Du) (w : World) (e : Ending) (w' : World) : Prop :=
  ∃ v ys, e = .returned v ∧ ys.Perm (ds.filter (dueB now)) ∧ ys.Pairwise Du.lt ∧ Seg w' w.heap.size 96 3 v ys.length (duS ys) ∧ Tms w' bt bm (ds.filter fun d => !dueB now d) ∧ Only [bm] w w'
theorem dropAll_append : ∀ {a b ds : List Du}, dropAll (a ++ b) ds = dropAll b (dropAll a ds)
  | [], b, ds => rfl
  | x :: a, b, ds => by simp only [List.cons_append, dropAll]; exact dropAll_append
theorem dropAll_take {ys ds : List Du} {k : Nat} (hk : k < ys.length) : dropAll (ys.take (k + 1)) ds = dropD ys[k].key (dropAll (ys.take k) ds) := by
  rw [List.take_succ_eq_append_getElem hk, dropAll_append]
  rfl
theorem tdue_any (now : Int) (bt bm : Nat) (ds : List Du) (w : World) (h : Tms w bt bm ds) (hlen : ds.length ≤ 1000) : Calls Try.prog 48 #[.pointer (some ⟨bt, 0, none⟩), .int .i64 now] w (DuePost now bt bm ds w) := by
  obtain ⟨i0, hi, hz0, hz1, hz2⟩ := info_parts infoDue
  obtain ⟨x1, x2, x3⟩ := h.b.facts
  have y0 := x1 0
  obtain ⟨W, hrange, hrng, hbW⟩ := h.m.range und168
  have HTM := Lib.hid h
  have HKEYS := Lib.hid h.keys
  have HST : Hid (ColRel (w.heap.size + 1) w.heap.size bm now ds [] ds (.slice none 0 0) W) := Lib.hid ⟨Seg.nil _ _ _ _, hrng, by simp, h.keys, by simp⟩
  have HBW := Lib.hid hbW
  obtain ⟨r, hr⟩ : ∃ r, w.heap.size = r := ⟨_, rfl⟩
  rw [hr] at hrange HST
  have HRR := Lib.hid hr
  clear x1 x2 h hrng hbW hr
  go_enter Try.func48, Try.ntmps48
  go_wp2_with fail
  go_loopg [5] ds.length (fun gk v wr => ∃ (xs R : List Du), R.length ≤ gk ∧ Hid (ColRel (r + 1) r bm now ds xs R v wr) ∧ Hid (Below w.heap.size w wr))
  case atStart => exact ⟨_, _, Nat.le_refl _, HST, HBW⟩
  case round =>
    clear HST hrange HBW y0
    obtain ⟨xs, R, hRl, HREL, HB⟩ := hrel
    obtain ⟨ao, co, rfl⟩ := HREL.out.1.form
    rcases HREL.out.2.1.next keyLaw with ⟨h0, hrun⟩ | ⟨p, hp, w2, hrun, hent, hrng2, ho, hpl⟩
    · have hR : R = [] := by simpa using h0
      have hxs : xs.Perm (ds.filter (dueB now)) := by
        have := HREL.out.2.2.1
        rw [hR] at this
        simpa using this
      have hxl : xs.length ≤ 1000 := by have := HREL.out.2.2.2.2; omega
      have hxk : (xs.map Du.key).Nodup := (hxs.map Du.key).nodup_iff.2 (List.Sublist.nodup ((List.filter_sublist).map _) HKEYS.out)
      have HSORT := Lib.hid (sort_due (r + 1) (.slice ao xs.length co) xs wr HREL.out.1 hxk hxl)
      have HXS := Lib.hid hxs
      have hxl' : (xs.length : Int) ≤ 1000 := by omega
      clear h0 hR hxs hxk
      go_wp2_with fail
      refine HSORT.out.mono ?_
      rintro e w3 ⟨rfl, ys, hp, hsrt, hseg, ho3⟩
      have HB3 : Hid (Only [bm] w w3) := Lib.hid ((Only.of_below HB.out).trans' ho3 (fun x hx => .inr (by
        have := (HREL.out.1.blk x (by simpa using hx)).1
        have := HRR.out
        omega)))
      have HTM3 : Hid (Tms w3 bt bm ds) := Lib.hid (HTM.out.chain (Below.only HB.out ho3 (fun x hx => by
        have := (HREL.out.1.blk x (by simpa using hx)).1
        have := HRR.out
        omega)))
      have HYS := Lib.hid (And.intro (hp.trans HXS.out) hsrt)
      have hyl := hp.length_eq
      clear hp hsrt ho3 HSORT HREL HXS hrun hRl
      generalize xs.length = n at *
      subst hyl
      have HSG := Lib.hid hseg
      clear hseg
      go_wp2_with fail
      go_loopw [35] (fun i wr => ∃ k : Nat, k ≤ ys.length ∧ i = .int .i64 k ∧ Hid (Tms wr bt bm (dropAll (ys.take k) ds)) ∧ Hid (Seg wr (r + 1) 96 3 (.slice ao ys.length co) ys.length (duS ys)) ∧ Hid (Only [bm] w wr)) (fun i _ => ys.length - (intOf i).toNat)
      case atStart => exact ⟨0, Nat.zero_le _, rfl, HTM3, HSG, HB3⟩
      case round =>
        clear HTM3 HSG HB3
        obtain ⟨k, hk, rfl, HT, HSG, HO⟩ := hrel
        by_cases hlt : k < ys.length
        · obtain ⟨g, off, _, e, hgb, hgw, _⟩ := HSG.out.shape (by omega)
          cases e
          obtain ⟨c0, c1, c2⟩ := HSG.out.du hlt
          have hks := dropAll_take (ds := ds) hlt
          have hki : (k : Int) < (ys.length : Int) := by omega
          obtain ⟨d, hd⟩ : ∃ d, ys[k] = d := ⟨_, rfl⟩
          rw [hd] at c0 c1 c2 hks
          have HKS := Lib.hid hks
          have HLT := Lib.hid hlt
          obtain ⟨a, b, z⟩ := d
          dsimp only at c0 c1 c2
          have hB := Below.chainAlloc (Below.refl _ wr) (.cells #[.int .i64 a, .int .u32 b, .int .i64 z] 96)
          have hkb := Blk.new wr #[.int .i64 a, .int .u32 b, .int .i64 z] 96
          obtain ⟨W2, hW2⟩ : ∃ W2, wr.alloc (.cells #[.int .i64 a, .int .u32 b, .int .i64 z] 96) = W2 := ⟨_, rfl⟩
          rw [hW2] at hB hkb
          have h1 := HT.out.chain hB
          have y0 := h1.b.facts.1 0
          have z0 := hkb.facts.1 0
          have z1 := hkb.facts.1 1
          have hk : MapW encK W2.drew bm ((dropAll (ys.take k) ds).map Du.mp) := h1.m
          obtain ⟨W', hrun, hm', ho⟩ := hk.del keyLaw und168 (a, b)
          have HT' : Hid (Tms W' bt bm (dropAll (ys.take (k + 1)) ds)) := Lib.hid (by
            rw [HKS.out]
            exact h1.only (Only.trans (Only.refl _ _).drew ho) hm' delM_mp)
          have HO' : Hid (Only [bm] w W') := Lib.hid (HO.out.trans ((Only.of_below hB).trans ((Only.refl _ _).drew.trans ho)))
          have hgm : g ≠ bm := fun e => by
            obtain ⟨_, _, hbm, _⟩ := HT.out.m
            rcases HSG.out.2 with ⟨h0, _⟩ | ⟨g', _, _, _, hv, _, hh, _⟩
            · cases h0
            · cases hv
              rw [e, hbm] at hh
              cases hh
          have HSG' := Lib.hid (((HSG.out.chain hB).drew).only ho (fun x hx => by
            have : g = x := by simpa [Value.ownBlock] using hx
            simp [← this, hgm]))
          have HW2 := Lib.hid hW2
          unfold encK at hrun
          dsimp only at hrun
          clear hB hkb h1 hk hm' ho hW2 hks hd hlt hgm
          go_upto_region 13 with fail
          rw [HW2.out]
          go_still_tail 6, (by kernel_rfl)
          change wpList _ _ _ _ _ W2.drew
          go_wp2_with fail
          go_roundw
          case measure => have := HLT.out; simp [intOf]; omega
          case rel => exact ⟨k + 1, HLT.out, by go_num, HT', HSG', HO'⟩
        · obtain rfl : k = ys.length := by omega
          have hlt' : ¬ (ys.length : Int) < (ys.length : Int) := by omega
          have HF : Hid (Tms wr bt bm (ds.filter fun d => !dueB now d)) := Lib.hid (by
            have := HT.out
            rwa [List.take_length, dropAll_due HKEYS.out HYS.out.1] at this)
          go_wp2_with fail
          go_ret
          exact ⟨_, ys, rfl, HYS.out.1, HYS.out.2, HSG.out.le (by have := HRR.out; omega), HF.out, HO.out⟩
    · obtain ⟨d, hd, rfl⟩ := List.mem_map.1 hp
      have hnk := HREL.out.2.2.2.1
      have hdl := drop_len hnk hd
      have HB2 : Hid (Below w.heap.size w w2) := Lib.hid (Below.only HB.out ho (by simp [HRR.out.symm]))
      have hsg : Seg w2 (r + 1) 96 3 (.slice ao xs.length co) xs.length (duS xs) := HREL.out.1.only ho (fun g hg => by
        have := (HREL.out.1.blk g hg).1
        simp
        omega)
      have hkn := drop_keys (k := d.key) hnk
      have hxl : xs.length + R.length ≤ ds.length := HREL.out.2.2.2.2
      have hrw : r + 1 ≤ w2.heap.size := by have := hrng2.lt; omega
      by_cases hdue : d.at_ ≤ now
      · have HP := Lib.hid (col_take HREL.out.2.2.1 hnk hd (by simp [dueB, hdue]))
        have HR2 := Lib.hid (delM_mp (k := d.key) (ds := R) ▸ hrng2)
        have HKN := Lib.hid hkn
        obtain ⟨a, b, z⟩ := d
        have hHB := Below.chainAlloc (Below.refl _ w2) (.cells #[.int .i64 a, .int .u32 b] 69)
        have hsg2 := hsg.alloc (.cells #[.int .i64 a, .int .u32 b] 69)
        have hcn := cells_new (w2.alloc (.cells #[.int .i64 a, .int .u32 b] 69)) (duC ⟨a, b, z⟩) 96
        rw [size_alloc] at hcn
        have HCN := Lib.hid hcn
        have HSG2 := Lib.hid hsg2
        obtain ⟨q1, q2⟩ : xs.length + 1 ≤ maxLen ∧ (xs.length + 1) * 24 ≤ 140737488355328 := by
          unfold maxLen
          omega
        unfold Du.mp encK Du.key at hrun hent
        dsimp only at hrun hent hdue hdl
        have HDL := Lib.hid hdl
        have HRW := Lib.hid hrw
        clear hp hrng2 ho hpl hd hnk hsg hkn hHB hsg2 hcn hdl hrw HREL
        go_wp2_with (at_builtin; refine wpList_append_seg _ rfl (.tmp 25) (.tmp 29) 91 rfl (r + 1) 96 i0 _ 3 24 Try.underlying91 hi hz0 hz1 hz2 rfl (by decide) (.slice ao xs.length co) xs.length (duS xs) rfl (HSG2.out.alloc _) ⟨w2.heap.size + 1, 0, none⟩ 1 1 (duC ⟨a, b, z⟩) rfl rfl HCN.out (by simp [duC, Value.oneCell']) (by decide) q1 q2 (by simp; have := HRW.out; omega) (w2.heap.size + 2) (by simp) ?_; intro g' off' cap' w5 hown hgrow hat)
        have hO5 : Only (Value.slice ao xs.length co).ownBlock.toList w2 w5 := Only.grown (((Only.refl _ _).alloc _).alloc _) hgrow (fun x hx => .inl (by simp [hx]))
        have HR5 := Lib.hid (HR2.out.only hO5 (fun hm => by
          have := (HSG2.out.blk r (by simpa using hm)).1
          omega) (fun hm => by
          have := (HSG2.out.blk bm (by simpa using hm)).1
          have := HTM.out.m.lt
          have := HRR.out
          omega))
        have HB5 : Hid (Below w.heap.size w w5) := Lib.hid (Below.only HB2.out hO5 (fun x hx => by
          have := (HSG2.out.blk x (by simpa using hx)).1
          have := HRR.out
          omega))
        have HOW := Lib.hid hown
        clear hown hgrow hat hO5 HR2 HB2 HSG2 HCN
        go_roundg (dropD (Du.key ⟨a, b, z⟩) R).length
        case measure => have := HDL.out; omega
        case rel => exact ⟨xs ++ [⟨a, b, z⟩], dropD (Du.key ⟨a, b, z⟩) R, Nat.le_refl _, Lib.hid ⟨by rw [List.length_append, List.length_singleton, duS_snoc]; exact HOW.out, HR5.out, HP.out, HKN.out, by have := HDL.out; rw [List.length_append, List.length_singleton]; omega⟩, HB5⟩
      · have HP := Lib.hid (col_skip HREL.out.2.2.1 hnk hd (by simp [dueB, hdue]))
        have HR2 := Lib.hid (delM_mp (k := d.key) (ds := R) ▸ hrng2)
        have HKN := Lib.hid hkn
        obtain ⟨a, b, z⟩ := d
        have HSG2 := Lib.hid (hsg.alloc (.cells #[.int .i64 a, .int .u32 b] 69))
        have HB5 := Lib.hid (Below.chainAlloc HB2.out (.cells #[.int .i64 a, .int .u32 b] 69))
        have HR5 := Lib.hid (HR2.out.chain (Below.chainAlloc (Below.refl _ w2) (.cells #[.int .i64 a, .int .u32 b] 69)))
        unfold Du.mp encK Du.key at hrun hent
        dsimp only at hrun hent hdue hdl
        have HDL := Lib.hid hdl
        clear hp hrng2 ho hpl hd hnk hsg hkn hdl hrw HREL HR2 HB2
        go_wp2_with fail
        go_roundg (dropD (Du.key ⟨a, b, z⟩) R).length
        case measure => have := HDL.out; omega
        case rel => exact ⟨xs, dropD (Du.key ⟨a, b, z⟩) R, Nat.le_refl _, Lib.hid ⟨HSG2.out, HR5.out, HP.out, HKN.out, by have := HDL.out; omega⟩, HB5⟩
end Go.Proofs.Ytphejbjbleeigaa
