/-
  Calls that wait: All, Drop (chapter 29).
-/
import Derived.Test.YtjfmjehacaemcaaCl4
namespace Go.Proofs.Ytjfmjehacaemcaa
open Go Go.RowKit
set_option linter.unusedVariables false
set_option maxRecDepth 100000
set_option maxHeartbeats 4000000
theorem infoWait : (Try.prog.info? 30).map (fun i => (i.zero, i.size, i.bytes)) = some (some (.agg #[.int .i64 0, .int .i64 0, .int .i64 0, .int .i64 0, .string ⟨#[]⟩]), 5, 48) := by kernel_rfl
theorem wtS_len (ds : List Wt) : (wtS ds).length = ds.length * 5 := length_flat wtC_len ds
theorem wtS_snoc (ds : List Wt) (d : Wt) : wtS (ds ++ [d]) = wtS ds ++ wtC d := by simp [wtS]
/-- A thing among others, cell by cell. -/
theorem Seg.wt {w : World} {base g off cap : Nat} {ds : List Wt} (h : Seg w base 30 5 (.slice (some ⟨g, off, none⟩) ds.length cap) ds.length (wtS ds)) {m : Nat} (hm : m < ds.length) :
    w.cell? ⟨g, off + m * 5, none⟩ = some (.int .i64 ds[m].id) ∧ w.cell? ⟨g, off + m * 5 + 1, none⟩ = some (.int .i64 ds[m].kind) ∧ w.cell? ⟨g, off + m * 5 + 2, none⟩ = some (.int .i64 ds[m].stream) ∧ w.cell? ⟨g, off + m * 5 + 3, none⟩ = some (.int .i64 ds[m].n) ∧ w.cell? ⟨g, off + m * 5 + 4, none⟩ = some (Str ds[m].body) := by
  have get : ∀ o (ho : o < 5), w.cell? ⟨g, off + m * 5 + o, none⟩ = (wtC ds[m])[o]? := fun o ho => by
    have h2 := get_flat wtC_len ds (m * 5 + o) (by omega)
    rw [Nat.add_assoc, h.at (m * 5 + o) (by omega)]
    show (wtS ds)[m * 5 + o]? = _
    unfold wtS
    rw [h2, show (m * 5 + o) / 5 = m by omega, show (m * 5 + o) % 5 = o by omega, List.getElem!_eq_getElem?_getD, List.getElem?_eq_getElem hm]
    rfl
  exact ⟨get 0 (by decide), get 1 (by decide), get 2 (by decide), get 3 (by decide), get 4 (by decide)⟩
theorem one_wtC (d : Wt) : ∀ u ∈ wtC d, u.oneCell' = true := by
  intro u hu
  simp [wtC] at hu
  rcases hu with rfl | rfl | rfl | rfl | rfl <;> rfl
theorem one_wtS (xs : List Wt) : ∀ u ∈ wtS xs, u.oneCell' = true := by
  intro u hu
  unfold wtS at hu
  obtain ⟨d, _, hd⟩ := List.mem_flatMap.1 hu
  exact one_wtC d u hd
theorem drop_permW {R : List Wt} {d : Wt} (hn : (R.map Wt.key).Nodup) (hd : d ∈ R) : R.Perm (d :: dropW d.key R) := by
  induction R with
  | nil => cases hd
  | cons x R ih =>
    rw [List.map_cons, List.nodup_cons] at hn
    rcases List.mem_cons.1 hd with rfl | hd
    · rw [dropW_cons_pos rfl, dropW_self (fun y hy e => hn.1 (by rw [← e]; exact List.mem_map.2 ⟨y, hy, rfl⟩))]
    · have hne : ¬ x.key = d.key := fun e => hn.1 (by rw [e]; exact List.mem_map.2 ⟨d, hd, rfl⟩)
      rw [dropW_cons_neg hne]
      exact ((ih hn.2 hd).cons x).trans (List.Perm.swap _ _ _)
theorem drop_keysW {R : List Wt} {k : Int × Int} (hn : (R.map Wt.key).Nodup) : ((dropW k R).map Wt.key).Nodup := List.Sublist.nodup ((List.filter_sublist).map _) hn
/-- What was collected so far, what is still to come. -/
def AllRel (B r bm : Nat) (ds xs R : List Wt) (v : Value) (wr : World) : Prop :=
  Seg wr B 30 5 v xs.length (wtS xs) ∧ RngW encP wr r bm (ds.map Wt.mp) (R.map Wt.mp) ∧ (xs ++ R).Perm ds ∧ (R.map Wt.key).Nodup ∧ xs.length + R.length ≤ ds.length
def AllPost (ds : List Wt) (w : World) (e : Ending) (w' : World) : Prop :=
  ∃ v ys, e = .returned v ∧ ys.Perm ds ∧ ys.Pairwise Wt.lt ∧ Seg w' w.heap.size 30 5 v ys.length (wtS ys) ∧ Below w.heap.size w w'
theorem call_nil (w : World) : Calls Try.prog 15 #[.pointer none] w fun e w' => e = .returned (.slice none 0 0) ∧ w = w' := by
  go_enter Try.func15, Try.ntmps15
  go_wp2
  go_ret
  exact ⟨rfl, rfl⟩
theorem call_any (bt bm : Nat) (ds : List Wt) (w : World) (h : Cls w bt bm ds) (hlen : ds.length ≤ 1000) : Calls Try.prog 15 #[.pointer (some ⟨bt, 0, none⟩)] w (AllPost ds w) := by
  obtain ⟨i0, hi, hz0, hz1, hz2⟩ := info_parts infoWait
  obtain ⟨x1, x2, x3⟩ := h.b.facts
  have y0 := x1 0
  obtain ⟨W, hrange, hrng, hbW⟩ := h.m.range undM
  have HTM := Lib.hid h
  have HKEYS := Lib.hid h.keys
  have HST : Hid (AllRel (w.heap.size + 1) w.heap.size bm ds [] ds (.slice none 0 0) W) := Lib.hid ⟨Seg.nil _ _ _ _, hrng, by simp, h.keys, by simp⟩
  have HBW := Lib.hid hbW
  obtain ⟨r, hr⟩ : ∃ r, w.heap.size = r := ⟨_, rfl⟩
  rw [hr] at hrange HST
  have HRR := Lib.hid hr
  clear x1 x2 h hrng hbW hr
  go_enter Try.func15, Try.ntmps15
  go_wp2_with fail
  go_loopg [3] ds.length (fun gk v wr => ∃ (xs R : List Wt), R.length ≤ gk ∧ Hid (AllRel (r + 1) r bm ds xs R v wr) ∧ Hid (Below w.heap.size w wr))
  case atStart => exact ⟨_, _, Nat.le_refl _, HST, HBW⟩
  case round =>
    clear HST hrange HBW y0
    obtain ⟨xs, R, hRl, HREL, HB⟩ := hrel
    obtain ⟨ao, co, rfl⟩ := HREL.out.1.form
    rcases HREL.out.2.1.next placeLaw with ⟨h0, hrun⟩ | ⟨p, hp, w2, hrun, hent, hrng2, ho, hpl⟩
    · have hR : R = [] := by simpa using h0
      have hxs : xs.Perm ds := by
        have := HREL.out.2.2.1
        rw [hR] at this
        simpa using this
      have hxl : xs.length ≤ 1000 := by have := HREL.out.2.2.2.2; omega
      have hxk : (xs.map Wt.key).Nodup := (hxs.map Wt.key).nodup_iff.2 HKEYS.out
      have HSORT := Lib.hid (sort_wait (r + 1) (.slice ao xs.length co) xs wr HREL.out.1 hxk hxl)
      have HXS := Lib.hid hxs
      clear h0 hR hxs hxk
      go_wp2_with fail
      refine HSORT.out.mono ?_
      rintro e w3 ⟨rfl, ys, hp, hsrt, hseg, ho3⟩
      have HB3 : Hid (Below w.heap.size w w3) := Lib.hid (Below.only HB.out ho3 (fun x hx => by
        have := (HREL.out.1.blk x (by simpa using hx)).1
        have := HRR.out
        omega))
      have HYS := Lib.hid (And.intro (hp.trans HXS.out) hsrt)
      have HYL := Lib.hid hp.length_eq
      have HSG := Lib.hid hseg
      clear hp hsrt ho3 HSORT HREL HXS hrun hRl hseg
      go_wp2_with fail
      go_ret
      exact ⟨_, ys, rfl, HYS.out.1, HYS.out.2, by rw [HYL.out]; exact HSG.out.le (by have := HRR.out; omega), HB3.out⟩
    · obtain ⟨d, hd, rfl⟩ := List.mem_map.1 hp
      have hnk := HREL.out.2.2.2.1
      have hperm := drop_permW hnk hd
      have hdl : (dropW d.key R).length + 1 = R.length := by have := hperm.length_eq; simpa using this.symm
      have HB2 : Hid (Below w.heap.size w w2) := Lib.hid (Below.only HB.out ho (by simp [HRR.out.symm]))
      have hsg : Seg w2 (r + 1) 30 5 (.slice ao xs.length co) xs.length (wtS xs) := HREL.out.1.only ho (fun g hg => by
        have := (HREL.out.1.blk g hg).1
        simp
        omega)
      have hkn := drop_keysW (k := d.key) hnk
      have hxl : xs.length + R.length ≤ ds.length := HREL.out.2.2.2.2
      have hrw : r + 1 ≤ w2.heap.size := by have := hrng2.lt; omega
      have HP : Hid ((xs ++ [d] ++ dropW d.key R).Perm ds) := Lib.hid (by
        rw [List.append_assoc]
        exact (List.Perm.append_left xs hperm.symm).trans HREL.out.2.2.1)
      have HR2 := Lib.hid (delM_wp (k := d.key) (ds := R) ▸ hrng2)
      have HKN := Lib.hid hkn
      obtain ⟨i, kd, s, n, b⟩ := d
      have hsg2 := hsg.alloc (.cells #[.int .i64 i, .int .i64 kd, .int .i64 s, .int .i64 n, Str b] 30)
      have hcn := cells_new (w2.alloc (.cells #[.int .i64 i, .int .i64 kd, .int .i64 s, .int .i64 n, Str b] 30)) (wtC ⟨i, kd, s, n, b⟩) 30
      rw [size_alloc] at hcn
      have HCN := Lib.hid hcn
      have HSG2 := Lib.hid hsg2
      obtain ⟨q1, q2⟩ : xs.length + 1 ≤ maxLen ∧ (xs.length + 1) * 48 ≤ 140737488355328 := by
        unfold maxLen
        omega
      unfold Wt.mp encP Wt.key Wt.val at hrun hent
      dsimp only at hrun hent hdl
      have HDL := Lib.hid hdl
      have HRW := Lib.hid hrw
      clear hp hrng2 ho hpl hd hnk hsg hkn hsg2 hcn hdl hrw HREL hperm
      go_wp2_with (at_builtin; refine wpList_append_seg _ rfl (.tmp 17) (.tmp 19) 26 rfl (r + 1) 30 i0 _ 5 48 Try.underlying26 hi hz0 hz1 hz2 rfl (by decide) (.slice ao xs.length co) xs.length (wtS xs) rfl (HSG2.out.alloc _) ⟨w2.heap.size + 1, 0, none⟩ 1 1 (wtC ⟨i, kd, s, n, b⟩) rfl rfl HCN.out (one_wtC _) (by decide) q1 q2 (by simp; have := HRW.out; omega) (w2.heap.size + 2) (by simp) ?_; intro g' off' cap' w5 hown hgrow hat)
      have hO5 : Only (Value.slice ao xs.length co).ownBlock.toList w2 w5 := Only.grown (((Only.refl _ _).alloc _).alloc _) hgrow (fun x hx => .inl (by simp [hx]))
      have HR5 := Lib.hid (HR2.out.only hO5 (fun hm => by
        have := (HSG2.out.blk r (by simpa using hm)).1
        omega) (fun hm => by
        have := (HSG2.out.blk bm (by simpa using hm)).1
        have := HTM.out.m.lt
        have := HRR.out
        omega))
      have HB5 : Hid (Below w.heap.size w w5) := Lib.hid (Below.only HB2.out hO5 (fun x hx => by
        have := (HSG2.out.blk x (by simpa using hx)).1
        have := HRR.out
        omega))
      have HOW := Lib.hid hown
      clear hown hgrow hat hO5 HR2 HB2 HSG2 HCN
      go_roundg (dropW (Wt.key ⟨i, kd, s, n, b⟩) R).length
      case measure => have := HDL.out; omega
      case rel => exact ⟨xs ++ [⟨i, kd, s, n, b⟩], dropW (Wt.key ⟨i, kd, s, n, b⟩) R, Nat.le_refl _, Lib.hid ⟨by rw [List.length_append, List.length_singleton, wtS_snoc]; exact HOW.out, HR5.out, HP.out, HKN.out, by have := HDL.out; rw [List.length_append, List.length_singleton]; omega⟩, HB5⟩
/-! Drop, kind by kind -/
def colW (s : Int) (ds : List Wt) : Nat → List Wt
  | 0 => []
  | m + 1 => colW s ds m ++ (getW (s, (m : Int) + 2) ds).toList
def drpW (s : Int) (ds : List Wt) : Nat → List Wt
  | 0 => ds
  | m + 1 => dropW (s, (m : Int) + 2) (drpW s ds m)
theorem getW_dropW {k k' : Int × Int} (h : k ≠ k') : ∀ {ds : List Wt}, getW k (dropW k' ds) = getW k ds
  | [] => rfl
  | x :: ds => by
    by_cases h1 : x.key = k'
    · have h2 : ¬ x.key = k := fun e => h (e.symm.trans h1)
      rw [dropW_cons_pos h1, getW_dropW h]
      simp [getW, h2]
    · rw [dropW_cons_neg h1]
      by_cases h2 : x.key = k
      · simp [getW, h2]
      · simp only [getW, if_neg h2]
        exact getW_dropW h
theorem getW_drpW (s : Int) (ds : List Wt) (j : Int) : ∀ m : Nat, (m : Int) + 2 ≤ j → getW (s, j) (drpW s ds m) = getW (s, j) ds
  | 0, _ => rfl
  | m + 1, h => by
    simp only [drpW]
    rw [getW_dropW (by intro e; have := congrArg Prod.snd e; dsimp only at this; omega), getW_drpW s ds j m (by omega)]
theorem colW_len (s : Int) (ds : List Wt) : ∀ m : Nat, (colW s ds m).length ≤ m
  | 0 => by simp [colW]
  | m + 1 => by
    have := colW_len s ds m
    simp only [colW, List.length_append]
    cases getW (s, (m : Int) + 2) ds <;> simp <;> omega
theorem cdrop_nil (s : Int) (w : World) : Calls Try.prog 14 #[.pointer none, .int .i64 s] w fun e w' => e = .returned (.slice none 0 0) ∧ Below w.heap.size w w' := by
  go_enter Try.func14, Try.ntmps14
  go_wp2_with fail
  go_loopw [5, 6] (fun v i wr => ∃ m : Nat, m ≤ 3 ∧ v = .slice none 0 0 ∧ i = .int .i64 ((m : Int) + 2) ∧ Hid (Below w.heap.size w wr)) (fun _ i _ => 5 - (intOf i).toNat)
  case atStart => exact ⟨0, by omega, rfl, rfl, Lib.hid (Below.refl _ _)⟩
  case round =>
    obtain ⟨m, hm, rfl, rfl, HB⟩ := hrel
    by_cases hlt : m < 3
    · have hmi : (m : Int) + 2 ≤ 4 := by omega
      have hm0 : (0 : Int) ≤ (m : Int) := by omega
      have hw1 : IntKind.i64.wrap ((m : Int) + 2 + 1) = (m : Int) + 2 + 1 := IntWalk.i64_in _ (by omega)
      go_wp2_with fail
      refine (ctake_nil s _ _).mono ?_
      rintro e w1 ⟨rfl, hb⟩
      have HB1 := Lib.hid (Below.chainAlloc (Below.chain hb HB.out) (.cells #[.int .i64 0, .int .i64 0, .int .i64 0, .int .i64 0, .string ⟨#[]⟩] 30))
      unfold wt0 Wt.val
      clear hb
      go_wp2_with fail
      go_roundw
      case measure => simp [intOf]; omega
      case rel => exact ⟨m + 1, hlt, rfl, by congr 1, HB1⟩
    · obtain rfl : m = 3 := by omega
      go_wp2_with fail
      go_ret
      exact ⟨rfl, HB.out⟩
/-- What Drop leaves. -/
def CDropPost (s : Int) (bt bm : Nat) (ds : List Wt) (w : World) (e : Ending) (w' : World) : Prop :=
  ∃ v, e = .returned v ∧ Seg w' w.heap.size 30 5 v (colW s ds 3).length (wtS (colW s ds 3)) ∧ Cls w' bt bm (drpW s ds 3) ∧ Only [bm] w w'
theorem cdrop_any (s : Int) (bt bm : Nat) (ds : List Wt) (w : World) (h : Cls w bt bm ds) : Calls Try.prog 14 #[.pointer (some ⟨bt, 0, none⟩), .int .i64 s] w (CDropPost s bt bm ds w) := by
  obtain ⟨i0, hi, hz0, hz1, hz2⟩ := info_parts infoWait
  have HH := Lib.hid h
  clear h
  go_enter Try.func14, Try.ntmps14
  go_wp2_with fail
  go_loopw [5, 6] (fun v i wr => ∃ m : Nat, m ≤ 3 ∧ i = .int .i64 ((m : Int) + 2) ∧ Hid (Seg wr w.heap.size 30 5 v (colW s ds m).length (wtS (colW s ds m))) ∧ Hid (Cls wr bt bm (drpW s ds m)) ∧ Hid (Only [bm] w wr)) (fun _ i _ => 5 - (intOf i).toNat)
  case atStart => exact ⟨0, by omega, rfl, Lib.hid (Seg.nil _ _ _ _), HH, Lib.hid (Only.refl _ _)⟩
  case round =>
    obtain ⟨m, hm, rfl, HSG, HC, HO⟩ := hrel
    obtain ⟨ao, co, rfl⟩ := HSG.out.form
    have HBN : Hid (∀ x, (Value.slice ao (colW s ds m).length co).ownBlock = some x → x ≠ bt ∧ x ≠ bm) := Lib.hid (fun x hx => by
      have := (HSG.out.blk x hx).1
      have := HH.out.b.lt
      have := HH.out.m.lt
      exact ⟨by omega, by omega⟩)
    by_cases hlt : m < 3
    · have hmi : (m : Int) + 2 ≤ 4 := by omega
      have hm0 : (0 : Int) ≤ (m : Int) := by omega
      have hw1 : IntKind.i64.wrap ((m : Int) + 2 + 1) = (m : Int) + 2 + 1 := IntWalk.i64_in _ (by omega)
      have hgw := getW_drpW s ds ((m : Int) + 2) m (Int.le_refl _)
      have hcl := colW_len s ds m
      cases hg : getW (s, (m : Int) + 2) ds with
      | none =>
        have HT := Lib.hid (ctake_no s ((m : Int) + 2) bt bm _ wr HC.out (hgw.trans hg))
        have HSG' : Hid (colW s ds (m + 1) = colW s ds m) := Lib.hid (by simp [colW, hg])
        have HDR : Hid (drpW s ds (m + 1) = drpW s ds m) := Lib.hid (by
          simp only [drpW]
          exact dropW_self (getW_none.1 (hgw.trans hg)))
        clear hgw hg
        go_wp2_with fail
        refine HT.out.mono ?_
        rintro e w1 ⟨rfl, hb⟩
        have hb1 := Below.chainAlloc hb (.cells #[.int .i64 0, .int .i64 0, .int .i64 0, .int .i64 0, .string ⟨#[]⟩] 30)
        have HS1 := Lib.hid (HSG.out.chain hb1)
        have HC1 := Lib.hid (HC.out.chain hb1)
        have HO1 := Lib.hid (HO.out.trans (Only.of_below hb1))
        unfold wt0 Wt.val
        clear hb hb1 HT HSG HC HO
        go_wp2_with fail
        go_roundw
        case measure => simp [intOf]; omega
        case rel => exact ⟨m + 1, hlt, by congr 1, by rw [HSG'.out]; exact HS1, by rw [HDR.out]; exact HC1, HO1⟩
      | some d =>
        have HT := Lib.hid (ctake_yes s ((m : Int) + 2) d bt bm _ wr HC.out (hgw.trans hg))
        have HSG' : Hid (colW s ds (m + 1) = colW s ds m ++ [d]) := Lib.hid (by simp [colW, hg])
        clear hgw hg
        obtain ⟨i, kd, s2, n, b⟩ := d
        obtain ⟨q1, q2⟩ : (colW s ds m).length + 1 ≤ maxLen ∧ ((colW s ds m).length + 1) * 48 ≤ 140737488355328 := by
          unfold maxLen
          omega
        go_wp2_with fail
        refine HT.out.mono ?_
        rintro e w1 ⟨rfl, hc, ho⟩
        have HS1 := Lib.hid ((HSG.out.only ho (fun x hx => by simp [(HBN.out x hx).2])).alloc (.cells #[.int .i64 i, .int .i64 kd, .int .i64 s2, .int .i64 n, Str b] 30))
        have HC1 : Hid (Cls w1 bt bm (drpW s ds (m + 1))) := Lib.hid hc
        have HO1 := Lib.hid (HO.out.trans ho)
        have hcn := cells_new (w1.alloc (.cells #[.int .i64 i, .int .i64 kd, .int .i64 s2, .int .i64 n, Str b] 30)) (wtC ⟨i, kd, s2, n, b⟩) 30
        rw [size_alloc] at hcn
        have HCN := Lib.hid hcn
        have HSZ : Hid (w.heap.size ≤ w1.heap.size) := Lib.hid HO1.out.size
        unfold Wt.val
        clear hc ho HT HSG HC HO hcn
        go_wp2_with (at_builtin; refine wpList_append_seg _ rfl (.tmp 21) (.tmp 23) 26 rfl w.heap.size 30 i0 _ 5 48 Try.underlying26 hi hz0 hz1 hz2 rfl (by decide) (.slice ao (colW s ds m).length co) (colW s ds m).length (wtS (colW s ds m)) rfl (HS1.out.alloc _) ⟨w1.heap.size + 1, 0, none⟩ 1 1 (wtC ⟨i, kd, s2, n, b⟩) rfl rfl HCN.out (one_wtC _) (by decide) q1 q2 (by simp; have := HSZ.out; omega) (w1.heap.size + 2) (by simp) ?_; intro g' off' cap' w5 hown hgrow hat)
        have hO5 : Only (Value.slice ao (colW s ds m).length co).ownBlock.toList w1 w5 := Only.grown (((Only.refl _ _).alloc _).alloc _) hgrow (fun x hx => .inl (by simp [hx]))
        have HC5 := Lib.hid (HC1.out.kept hO5 (fun hx => (HBN.out bt (by simpa using hx)).1 rfl) (fun hx => (HBN.out bm (by simpa using hx)).2 rfl))
        have HO5 : Hid (Only [bm] w w5) := Lib.hid (HO1.out.trans' hO5 (fun x hx => .inr (HS1.out.blk x (by simpa using hx)).1))
        have HOW := Lib.hid hown
        clear hown hgrow hat hO5 HC1 HS1 HO1 HCN
        go_roundw
        case measure => simp [intOf]; omega
        case rel => exact ⟨m + 1, hlt, by congr 1, Lib.hid (by rw [HSG'.out, List.length_append, List.length_singleton, wtS_snoc]; exact HOW.out), HC5, HO5⟩
    · obtain rfl : m = 3 := by omega
      go_wp2_with fail
      go_ret
      exact ⟨_, rfl, HSG.out, HC.out, HO.out⟩
end Go.Proofs.Ytjfmjehacaemcaa
