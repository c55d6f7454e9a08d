/-
  Timers: the walk of the law TimersOrder (chapter 13).
-/
import Derived.Test.YtphejbjbleeigaaTm12
namespace Go.Proofs.Ytphejbjbleeigaa
open Go Go.RowKit
set_option linter.unusedVariables false
set_option maxRecDepth 100000
set_option maxHeartbeats 8000000
open Go.ChangeShapes Go.WideShapes Go.ChangeAt
theorem mem_setD {d x : Du} : ∀ {ds : List Du}, x ∈ setD d ds → x = d ∨ x ∈ ds
  | [], h => by simp [setD] at h; exact .inl h
  | y :: ds, h => by
    unfold setD at h
    split at h
    · rcases List.mem_cons.1 h with h | h
      · exact .inl h
      · exact .inr (by simp [h])
    · rcases List.mem_cons.1 h with h | h
      · exact .inr (by simp [h])
      · rcases mem_setD h with h | h
        · exact .inl h
        · exact .inr (by simp [h])
theorem setD_len {d : Du} : ∀ {ds : List Du}, (setD d ds).length ≤ ds.length + 1
  | [] => by simp [setD]
  | y :: ds => by
    unfold setD
    split
    · simp
    · have := setD_len (d := d) (ds := ds)
      simp only [List.length_cons]
      omega
def GoodD (ds : List Du) : Prop := ∀ d ∈ ds, 0 ≤ d.at_ ∧ d.at_ ≤ 1099511627776
theorem GoodD.set {d : Du} {ds : List Du} (h : GoodD ds) (h0 : 0 ≤ d.at_) (h1 : d.at_ ≤ 1099511627776) : GoodD (setD d ds) := fun x hx => by
  rcases mem_setD hx with rfl | hx
  · exact ⟨h0, h1⟩
  · exact h x hx
/-- What is due, beside what is later. -/
structure Ord (now : Int) (ds ys : List Du) : Prop where
  due : ∀ d ∈ ys, d.at_ ≤ now
  away : ∀ d ∈ ys, atD d.key (ds.filter fun d => !dueB now d) = none
  rise : ∀ i (h : i + 1 < ys.length), ys[i].at_ ≤ ys[i + 1].at_ ∧ ys[i + 1].key ≠ ys[i].key
  len : (ds.filter fun d => !dueB now d).length + ys.length = ds.length
theorem Ord.mk' {now : Int} {ds ys : List Du} (hn : (ds.map Du.key).Nodup) (hp : ys.Perm (ds.filter (dueB now))) (hs : ys.Pairwise Du.lt) : Ord now ds ys := by
  have hyn : (ys.map Du.key).Nodup := (hp.map Du.key).nodup_iff.2 (List.Sublist.nodup ((List.filter_sublist).map _) hn)
  refine ⟨fun d hd => ?_, fun d hd => ?_, fun i h => ⟨?_, ?_⟩, ?_⟩
  · have := (List.mem_filter.1 (hp.mem_iff.1 hd)).2
    simpa [dueB] using this
  · rw [atD_none]
    intro x hx e
    obtain ⟨hx1, hx2⟩ := List.mem_filter.1 hx
    obtain ⟨hd1, hd2⟩ := List.mem_filter.1 (hp.mem_iff.1 hd)
    have := key_unique hn hx1 hd1 e
    subst this
    rw [hd2] at hx2
    cases hx2
  · have := (List.pairwise_iff_getElem.1 hs) i (i + 1) (by omega) h (by omega)
    unfold Du.lt at this
    omega
  · have := (List.pairwise_iff_getElem.1 hyn) i (i + 1) (by simpa using (by omega : i < ys.length)) (by simpa using h) (by omega)
    simp only [List.getElem_map] at this
    exact fun e => this e.symm
  · rw [hp.length_eq]
    have h1 : ∀ l : List Du, (l.filter fun d => !dueB now d).length + (l.filter (dueB now)).length = l.length := by
      intro l
      induction l with
      | nil => rfl
      | cons x l ih =>
        by_cases h : dueB now x
        · rw [List.filter_cons_of_neg (by simp [h]), List.filter_cons_of_pos h, List.length_cons, List.length_cons]
          omega
        · rw [List.filter_cons_of_pos (by simp [h]), List.filter_cons_of_neg h, List.length_cons, List.length_cons]
          omega
    exact h1 ds
theorem later_least {now m : Int} {ds : List Du} (hg : GoodD ds) (h : LeastD m (ds.filter fun d => !dueB now d)) (hne : 0 < (ds.filter fun d => !dueB now d).length) : now < m := by
  have hlate : ∀ d ∈ (ds.filter fun d => !dueB now d), now < d.at_ := fun d hd => by
    have := (List.mem_filter.1 hd).2
    simp [dueB] at this
    exact this
  rcases h.2 with rfl | ⟨d, hd, rfl⟩
  · obtain ⟨d, hd⟩ := List.exists_mem_of_length_pos hne
    have h1 := h.1 d hd
    have h2 := hlate d hd
    have h3 := (hg d (List.mem_filter.1 hd).1).2
    omega
  · exact hlate d hd
theorem tord_many (a : Option Addr) (len cap : Nat) (now : Int) (w : World) (h : 60 < len) : Calls Try.prog 12 #[.slice a len cap, .int .i64 now] w fun e w' => e = .returned (.bool true) ∧ Below w.heap.size w w' := by
  have hl2 : (60 : Int) < (len : Int) := by omega
  go_enter Try.func12, Try.ntmps12
  go_wp2_with fail
  refine (awake13_ok _).mono ?_
  rintro e w1 ⟨rfl, hb⟩
  go_wp2_with fail
  go_ret
  exact ⟨rfl, hb⟩
theorem tord_few (a : Option Addr) (len cap : Nat) (now : Int) (l : List TD) (w : World) (hz : IsRows 4 TD.cells w a len cap l) (h : len ≤ 60) : Calls Try.prog 12 #[.slice a len cap, .int .i64 now] w fun e w' => e = .returned (.bool true) ∧ Below w.heap.size w w' := by
  have hl2 : ¬ (60 : Int) < (len : Int) := by omega
  have HZ := Lib.hid hz
  clear hz
  go_enter Try.func12, Try.ntmps12
  go_wp2_with fail
  refine (tnew_any _).mono ?_
  rintro e w1 ⟨rfl, ht, hb1⟩
  have hl3 : (len : Int) ≤ 60 := by omega
  obtain ⟨bt, hbt⟩ : ∃ bt, w.heap.size + 1 = bt := ⟨_, rfl⟩
  obtain ⟨bm, hbm⟩ : ∃ bm, w.heap.size = bm := ⟨_, rfl⟩
  have HT1 : Hid (Tms w1 bt bm []) := Lib.hid (by rw [← hbt, ← hbm]; exact ht)
  have HTM : Hid (w.heap.size ≤ bm) := Lib.hid (by omega)
  have HB1 := Lib.hid hb1
  rw [hbt]
  clear hbt hbm ht hb1
  go_wp2_with fail
  go_loopw [6] (fun i wr => ∃ (k : Nat) (ds : List Du), k ≤ len ∧ i = .int .i64 k ∧ ds.length ≤ k ∧ Hid (GoodD ds) ∧ Hid (Tms wr bt bm ds) ∧ Hid (Below w.heap.size w wr)) (fun i _ => len - (intOf i).toNat)
  case atStart => exact ⟨0, [], Nat.zero_le _, rfl, Nat.le_refl _, Lib.hid (by simp [GoodD]), HT1, HB1⟩
  case round =>
    clear HT1 HB1
    obtain ⟨k, ds, hk, rfl, hdk, HG, HT, HB⟩ := hrel
    by_cases hlt : k < len
    · obtain ⟨g, off, hk', rfl, hg, hcell⟩ := HZ.out.get k hlt
      obtain ⟨c, hc⟩ : ∃ c, l[k] = c := ⟨_, rfl⟩
      rw [hc] at hcell
      obtain ⟨kd, a, b, z⟩ := c
      have HLT := Lib.hid hlt
      have hki : (k : Int) < (len : Int) := by omega
      have e1 : wr.cell? ⟨g, off + k * 4 + 1, none⟩ = some (.int .i64 a) := (HB.out.cell (p := ⟨g, _, none⟩) hg).trans (hcell 1 (by decide))
      have e2 : wr.cell? ⟨g, off + k * 4 + 2, none⟩ = some (.int .u32 b) := (HB.out.cell (p := ⟨g, _, none⟩) hg).trans (hcell 2 (by decide))
      have e3 : wr.cell? ⟨g, off + k * 4 + 3, none⟩ = some (.int .i64 z) := (HB.out.cell (p := ⟨g, _, none⟩) hg).trans (hcell 3 (by decide))
      have hk0 : (0 : Int) ≤ (k : Int) := by omega
      clear hcell hc hlt hg
      by_cases hz : 0 ≤ z ∧ z ≤ 1099511627776
      · have HP : Hid (∀ w', Tms w' bt bm ds → Calls Try.prog 46 #[.pointer (some ⟨bt, 0, none⟩), .agg #[.int .i64 a, .int .u32 b], .int .i64 z] w' (TmPost (.int .i64 0) bt bm (setD ⟨a, b, z⟩ ds) w')) := Lib.hid (fun w' h => tset_ok ⟨a, b, z⟩ bt bm ds w' h hz.1 hz.2)
        have HG2 := Lib.hid (HG.out.set (d := ⟨a, b, z⟩) hz.1 hz.2)
        clear hz
        go_upto_region 9 with fail
        go_still_tail 11, (by kernel_rfl)
        change wpList _ _ _ _ _ wr.drew
        go_wp2_with fail
        have HT0 : Hid (Tms wr.drew bt bm ds) := Lib.hid (HT.out.chain (Below.refl _ _).drew)
        refine (HP.out _ HT0.out).mono ?_
        rintro e w2 ⟨rfl, ht, ho⟩
        have HT2 := Lib.hid ht
        have HB2 := Lib.hid (Below.only HB.out.drew ho (by simp [HTM.out]))
        clear ht ho e1 e2 e3
        go_wp2_with fail
        go_roundw
        case measure => have := HLT.out; simp [intOf]; omega
        case rel => exact ⟨k + 1, _, HLT.out, by go_num, Nat.le_trans setD_len (Nat.succ_le_succ hdk), HG2, HT2, HB2⟩
      · have hz' : z < 0 ∨ 1099511627776 < z := by omega
        have HP : Hid (∀ w', Calls Try.prog 46 #[.pointer (some ⟨bt, 0, none⟩), .agg #[.int .i64 a, .int .u32 b], .int .i64 z] w' fun e w2 => e = .returned (.int .i64 2) ∧ Below w'.heap.size w' w2) := Lib.hid (fun w' => tset_bad (a, b) z bt w' hz')
        clear hz hz'
        go_upto_region 9 with fail
        go_still_tail 11, (by kernel_rfl)
        change wpList _ _ _ _ _ wr.drew
        go_wp2_with fail
        refine (HP.out _).mono ?_
        rintro e w2 ⟨rfl, hb⟩
        have HT2 := Lib.hid ((HT.out.chain (Below.refl _ _).drew).chain hb)
        have HB2 := Lib.hid (Below.chain hb HB.out.drew)
        clear hb e1 e2 e3
        go_wp2_with fail
        go_roundw
        case measure => have := HLT.out; simp [intOf]; omega
        case rel => exact ⟨k + 1, ds, HLT.out, by go_num, Nat.le_succ_of_le hdk, HG, HT2, HB2⟩
    · obtain rfl : k = len := by omega
      have hlt' : ¬ (k : Int) < (k : Int) := by omega
      have hdl : ds.length ≤ 1000 := by omega
      have hdi : (ds.length : Int) ≤ 1000 := by omega
      go_wp2_with fail
      refine (tlen_any bt bm ds wr HT.out).mono ?_
      rintro e w2 ⟨rfl, rfl⟩
      go_wp2_with fail
      refine (tdue_any now bt bm ds wr HT.out hdl).mono ?_
      rintro e w2 ⟨v, ys, rfl, hp, hs, hsg, ht, ho⟩
      have HORD := Lib.hid (Ord.mk' HT.out.keys hp hs)
      have HT2 := Lib.hid ht
      have HB2 := Lib.hid (Below.only HB.out ho (by simp [HTM.out]))
      have hyl : ys.length ≤ 1000 := by have := HORD.out.len; omega
      have hyi : (ys.length : Int) ≤ 1000 := by omega
      obtain ⟨ax, cx, rfl⟩ := hsg.form
      have HSG := Lib.hid hsg
      clear hp hs hsg ht ho HT HB
      obtain ⟨B, hB⟩ : ∃ B, wr.heap.size = B := ⟨_, rfl⟩
      rw [hB] at HSG
      clear hB
      generalize hrs : (ds.filter fun d => !dueB now d) = rs at *
      have HRS := Lib.hid hrs
      clear hrs
      go_wp2_with fail
      go_loopw [9] (fun i wx => ∃ (j : Nat), j ≤ ys.length ∧ i = .int .i64 j ∧ Hid (Tms wx bt bm rs) ∧ Hid (Seg wx B 96 3 (.slice ax ys.length cx) ys.length (duS ys)) ∧ Hid (Below w.heap.size w wx)) (fun i _ => ys.length - (intOf i).toNat)
      case atStart => exact ⟨0, Nat.zero_le _, rfl, HT2, HSG, HB2⟩
      case round =>
        clear HT2 HSG HB2
        obtain ⟨j, hj, rfl, HT, HSG, HB⟩ := hrel
        by_cases hjl : j < ys.length
        · obtain ⟨gx, ox, _, e, _⟩ := HSG.out.shape (by omega)
          cases e
          have hdu := fun w' (h : Below wr.heap.size wr w') => (HSG.out.chain h).du hjl
          have hdp := fun (h1 : 1 ≤ j) w' (h : Below wr.heap.size wr w') => (HSG.out.chain h).du (m := j - 1) (by omega)
          have haw := HORD.out.away _ (List.getElem_mem hjl)
          have hdu2 := HORD.out.due _ (List.getElem_mem hjl)
          have hri := fun (h1 : 1 ≤ j) => HORD.out.rise (j - 1) (by omega)
          obtain ⟨d, hd⟩ : ∃ d, ys[j] = d := ⟨_, rfl⟩
          rw [hd] at hdu haw hdu2
          have hji : (j : Int) < (ys.length : Int) := by omega
          have hj0 : (0 : Int) ≤ (j : Int) := by omega
          obtain ⟨a, b, z⟩ := d
          have HAW : Hid (atD (a, b) (ds.filter fun d => !dueB now d) = none) := Lib.hid haw
          rw [HRS.out] at HAW
          have HA := Lib.hid (tat_any (a, b) bt bm rs wr HT.out)
          rw [HAW.out] at HA
          unfold encK at HA
          dsimp only [Option.getD_none, Option.isSome_none] at HA
          obtain ⟨c0, c1, c2⟩ := hdu wr (Below.refl _ _)
          have HDU := Lib.hid hdu
          dsimp only at c0 c1 c2 hdu2
          have hdue : ¬ now < z := by omega
          have HJL := Lib.hid hjl
          by_cases h1 : 1 ≤ j
          · have hr1 := hri h1
            have hp1 := hdp h1
            have hjm : j - 1 + 1 = j := by omega
            have HJP : Hid (j - 1 < ys.length) := Lib.hid (by omega)
            obtain ⟨d', hd'⟩ : ∃ d', ys[j - 1]'HJP.out = d' := ⟨_, rfl⟩
            have hr2 : d'.at_ ≤ z ∧ ((a, b) : Int × Int) ≠ d'.key := by
              rw [← hd']
              have e3 : ys[j - 1 + 1]'(by omega) = ⟨a, b, z⟩ := by rw [← hd]; congr 1
              rw [e3] at hr1
              exact hr1
            rw [hd'] at hp1
            obtain ⟨p, q, u⟩ := d'
            have HPD := Lib.hid hp1
            obtain ⟨hr3, hr4⟩ := hr2
            dsimp only at hr3
            have hnl : ¬ z < u := by omega
            have hg1 := fun x y w => run_eqGuard_agg (P := Try.prog) w .eql 69 x y #[.int .i64 a, .int .u32 b] #[.int .i64 p, .int .u32 q] guardKey
            have he : ∀ w, (binOp .eql 69 (.agg #[.int .i64 a, .int .u32 b]) (.agg #[.int .i64 p, .int .u32 q])).run Try.prog w = .ok (.bool false) w := fun w => by
              have := run_eql_key w (a, b) (p, q)
              have hr5 : ¬ (a, b) = (p, q) := hr4
              rw [decide_eq_false hr5] at this
              exact this
            have hw1 : IntKind.i64.wrap ((j : Int) - 1) = (j : Int) - 1 := IntWalk.i64_in _ (by omega)
            have hw2 : (0 : Int) ≤ (j : Int) - 1 := by omega
            have hw3 : ((j : Int) - 1).toNat = j - 1 := by omega
            have hw4 : (j : Int) - 1 < (ys.length : Int) := by omega
            have hjp : (0 : Int) < (j : Int) := by omega
            have hjp2 : 0 < j := by omega
            have hjp4 : (1 : Int) ≤ (j : Int) := by omega
            have hjp3 : decide (0 < j) = true := by simp [hjp2]
            have HW := Lib.hid (And.intro hw1 hw3)
            have HHE := Lib.hid he
            clear hr1 hp1 hd' hri hdp hd hdu haw hr4 h1 hw1 hw3 he hjm hjl
            go_wp2_with fail
            refine HA.out.mono ?_
            rintro e w3 ⟨rfl, hb⟩
            have HT3 := Lib.hid (HT.out.chain hb)
            have HSG3 := Lib.hid (HSG.out.chain hb)
            have HB3 := Lib.hid (Below.chain hb HB.out)
            obtain ⟨c0', c1', c2'⟩ := HDU.out w3 hb
            obtain ⟨d0', d1', d2'⟩ := HPD.out w3 hb
            clear hb c0 c1 c2 HT HSG HB
            have he := HHE.out
            have hw1 := HW.out.1
            have hw3 := HW.out.2
            go_upto_region 16 with fail
            refine wp_region_quiet_lit (by kernel_rfl) (by kernel_rfl) ?_
            repeat (first | go_big_quiet_step (fail) | quiet_step (fail))
            refine wpQuiet_nil ?_
            intro _ hw'
            obtain ⟨nq, hw''⟩ := hw'
            subst hw''
            have HT4 : Hid (Tms (w3.drewN nq) bt bm rs) := Lib.hid (HT3.out.chain (below_drewN (Below.refl _ _) nq))
            have HSG4 : Hid (Seg (w3.drewN nq) B 96 3 (.slice (some ⟨gx, ox, none⟩) ys.length cx) ys.length (duS ys)) := Lib.hid HSG3.out
            have HB4 := Lib.hid (below_drewN HB3.out nq)
            clear HT3 HSG3 HB3 c0' c1' c2' d0' d1' d2' he hg1 hw1 hw3
            generalize w3.drewN nq = w5 at *
            go_wp2_with fail
            go_roundw
            case measure => have := HJL.out; simp [intOf]; omega
            case rel => exact ⟨j + 1, HJL.out, by go_num, HT4, HSG4, HB4⟩
          · have hj1 : j = 0 := by omega
            subst hj1
            clear hri hdp hd hdu haw h1 hjl
            simp only [Nat.zero_mul, Nat.add_zero] at c0 c1 c2
            go_wp2_with fail
            refine HA.out.mono ?_
            rintro e w3 ⟨rfl, hb⟩
            have HT3 := Lib.hid (HT.out.chain hb)
            have HSG3 := Lib.hid (HSG.out.chain hb)
            have HB3 := Lib.hid (Below.chain hb HB.out)
            obtain ⟨c0', c1', c2'⟩ := HDU.out w3 hb
            clear hb c0 c1 c2 HT HSG HB
            simp only [Nat.zero_mul, Nat.add_zero] at c0' c1' c2'
            go_upto_region 16 with fail
            refine wp_region_quiet_lit (by kernel_rfl) (by kernel_rfl) ?_
            repeat (first | go_big_quiet_step (fail) | quiet_step (fail))
            refine wpQuiet_nil ?_
            intro _ hw'
            obtain ⟨nq, hw''⟩ := hw'
            subst hw''
            have HT4 : Hid (Tms (w3.drewN nq) bt bm rs) := Lib.hid (HT3.out.chain (below_drewN (Below.refl _ _) nq))
            have HSG4 : Hid (Seg (w3.drewN nq) B 96 3 (.slice (some ⟨gx, ox, none⟩) ys.length cx) ys.length (duS ys)) := Lib.hid HSG3.out
            have HB4 := Lib.hid (below_drewN HB3.out nq)
            clear HT3 HSG3 HB3 c0' c1' c2'
            generalize w3.drewN nq = w5 at *
            go_wp2_with fail
            go_roundw
            case measure => have := HJL.out; simp [intOf]; omega
            case rel => exact ⟨0 + 1, HJL.out, by go_num, HT4, HSG4, HB4⟩
        · obtain rfl : j = ys.length := by omega
          have hyy : ¬ (ys.length : Int) < (ys.length : Int) := by omega
          have hlen := HORD.out.len
          rw [HRS.out] at hlen
          have hrl : (rs.length : Int) ≤ 1000 := by omega
          have heq : (rs.length : Int) = (ds.length : Int) - (ys.length : Int) := by omega
          have HLEN : Hid (∀ w', Tms w' bt bm rs → Calls Try.prog 47 #[.pointer (some ⟨bt, 0, none⟩)] w' fun e w'' => e = .returned (.int .i64 ((ds.length : Int) - (ys.length : Int))) ∧ w' = w'') := Lib.hid (fun w' h => by
            have := tlen_any bt bm rs w' h
            rwa [heq] at this)
          by_cases hr0 : rs.length = 0
          · have hrs0 : rs = [] := List.eq_nil_of_length_eq_zero hr0
            subst hrs0
            clear hlen heq hrl hr0
            go_wp2_with fail
            refine (tnext_no bt bm wr HT.out).mono ?_
            rintro e w5 ⟨rfl, rfl⟩
            go_wp2_with fail
            refine (HLEN.out _ HT.out).mono ?_
            rintro e w5 ⟨rfl, rfl⟩
            go_wp2_with fail
            refine (awake13_ok _).mono ?_
            rintro e w6 ⟨rfl, hb⟩
            have HBE := Lib.hid (Below.chain hb HB.out)
            go_wp2_with fail
            go_ret
            exact ⟨rfl, HBE.out⟩
          · have hgr : GoodD rs := fun d hd => HG.out d (List.mem_filter.1 (HRS.out ▸ hd)).1
            have HNX := Lib.hid (tnext_any bt bm rs wr HT.out (by omega) hgr)
            have hLL : ∀ m, LeastD m rs → now < m := fun m hm => later_least HG.out (by rw [HRS.out]; exact hm) (by rw [HRS.out]; omega)
            have HLL := Lib.hid hLL
            clear hlen heq hrl hr0 hgr hLL
            go_wp2_with fail
            refine HNX.out.mono ?_
            rintro e w5 ⟨m, rfl, hm, hb⟩
            have hnm := HLL.out m hm
            have HT5 := Lib.hid (HT.out.chain hb)
            have HB5 := Lib.hid (Below.chain hb HB.out)
            clear hb hm HT HB
            go_wp2_with fail
            refine (HLEN.out _ HT5.out).mono ?_
            rintro e w6 ⟨rfl, rfl⟩
            go_wp2_with fail
            refine (awake13_ok _).mono ?_
            rintro e w6 ⟨rfl, hb⟩
            have HBE := Lib.hid (Below.chain hb HB5.out)
            go_wp2_with fail
            go_ret
            exact ⟨rfl, HBE.out⟩
theorem tord_walk (a : Option Addr) (len cap : Nat) (now : Int) (l : List TD) (w : World) (hz : IsRows 4 TD.cells w a len cap l) : Calls Try.prog 12 #[.slice a len cap, .int .i64 now] w fun e w' => e = .returned (.bool true) ∧ Below w.heap.size w w' := by
  by_cases h : 60 < len
  · exact tord_many a len cap now w h
  · exact tord_few a len cap now l w hz (by omega)
end Go.Proofs.Ytphejbjbleeigaa
