/-
  The table: Oldest (chapter 18).
-/
import Derived.Test.YtnommofekjiiaaaTa20
namespace Go.Proofs.Ytnommofekjiiaaa
open Go Go.RowKit Go.MuLone
set_option linter.unusedVariables false
set_option linter.unusedSimpArgs false
set_option maxRecDepth 100000
set_option maxHeartbeats 2000000
def doneD (d : DE) : Prop := d.2.1 ≤ (d.2.2.length : Int)
instance (d : DE) : Decidable (doneD d) := by unfold doneD; infer_instance
/-- The first one that is not ready. -/
def oldD (A : List DE) : Option DE := A.find? fun d => !decide (doneD d)
theorem OldI.join {S T S' all all' : TE → Prop} {k k' : Int × Int} {m m' : Nat} (h : OldI S all k m) (h' : OldI T all' k' m') (hs : ∀ f, S' f → S f ∨ T f) (ha : ∀ f, all' f → all f) :
    (0 < m' ∧ (m = 0 ∨ m' < m) → OldI S' all k' m') ∧ (¬ (0 < m' ∧ (m = 0 ∨ m' < m)) → OldI S' all k m) := by
  constructor
  · rintro ⟨h0, h1⟩
    rcases h' with ⟨e1, _, _⟩ | ⟨g, g1, g2, g3, g4, g5, g6⟩
    · omega
    · refine .inr ⟨g, ha g g1, g2, g3, g4, g5, fun f hf hn => ?_⟩
      rcases hs f hf with hf | hf
      · rcases h with ⟨e1, e2, e3⟩ | ⟨q, q1, q2, q3, q4, q5, q6⟩
        · exact absurd (e3 f hf) hn
        · have := q6 f hf hn; omega
      · exact g6 f hf hn
  · intro hc
    rcases h with ⟨e1, e2, e3⟩ | ⟨q, q1, q2, q3, q4, q5, q6⟩
    · refine .inl ⟨e1, e2, fun f hf => ?_⟩
      rcases hs f hf with hf | hf
      · exact e3 f hf
      · rcases h' with ⟨_, _, g3⟩ | ⟨g, g1, g2, g3, g4, g5, g6⟩
        · exact g3 f hf
        · exact absurd ⟨g5, .inl e1⟩ hc
    · refine .inr ⟨q, q1, q2, q3, q4, q5, fun f hf hn => ?_⟩
      rcases hs f hf with hf | hf
      · exact q6 f hf hn
      · rcases h' with ⟨_, _, g3⟩ | ⟨g, g1, g2, g3, g4, g5, g6⟩
        · exact absurd (g3 f hf) hn
        · have h9 := g6 f hf hn
          have h8 : ¬ m' < m := fun h7 => hc ⟨g5, .inr h7⟩
          omega
theorem OldI.old_fin {es : List TE} (hmi : (es.map TE.made).Pairwise (· < ·)) (hpos : ∀ e ∈ es, 1 ≤ e.made) {k : Int × Int} {m : Nat} (h : OldI (fun e => e ∈ es) (fun e => e ∈ es) k m) :
    k = ((oldD (es.map TE.d)).map Prod.fst).getD (0, 0) ∧ (0 < m ↔ (oldD (es.map TE.d)).isSome = true) := by
  rcases h with ⟨h1, h2, h3⟩ | ⟨e, h1, h2, h3, h4, h5, h6⟩
  · have : oldD (es.map TE.d) = none := by
      unfold oldD
      rw [List.find?_eq_none]
      intro d hd
      obtain ⟨f, hf, rfl⟩ := List.mem_map.1 hd
      have := h3 f hf
      simp only [Bool.not_eq_true, Bool.not_eq_false', decide_eq_true_eq]
      exact this
    rw [this]
    exact ⟨h2, by simp [h1]⟩
  · have key : ∀ es : List TE, (es.map TE.made).Pairwise (· < ·) → e ∈ es → (∀ f ∈ es, ¬ doneE f → e.made ≤ f.made) → oldD (es.map TE.d) = some e.d := by
      intro es
      induction es with
      | nil => intro _ h; cases h
      | cons f es ih =>
        intro hp he hall
        rw [List.map_cons, List.pairwise_cons] at hp
        by_cases hf : doneE f
        · have hne : e ≠ f := fun h => h2 (h ▸ hf)
          have := ih hp.2 ((List.mem_cons.1 he).resolve_left hne) (fun g hg => hall g (by simp [hg]))
          unfold oldD at this ⊢
          rw [List.map_cons, List.find?_cons_of_neg]
          · exact this
          · simp only [Bool.not_eq_true, Bool.not_eq_false', decide_eq_true_eq]
            exact hf
        · have hle := hall f (by simp) hf
          have hef : e = f := by
            rcases List.mem_cons.1 he with h | h
            · exact h
            · have := hp.1 _ (List.mem_map.2 ⟨e, h, rfl⟩)
              omega
          subst hef
          unfold oldD
          rw [List.map_cons, List.find?_cons_of_pos]
          simp only [Bool.not_eq_true', decide_eq_false_iff_not]
          exact hf
    rw [key es hmi h1 h6]
    exact ⟨h4, by simp [h5]⟩
theorem oldest_any (base bt room : Nat) (A : List DE) (m : Nat) (s : TS) (w : World) (h : Tab base w bt room A m s) :
    Calls Try.prog 9 #[ptr bt] w (TabR base bt room A m w (.tuple #[encK (((oldD A).map Prod.fst).getD (0, 0)), .bool (oldD A).isSome])) := by
  obtain ⟨ht, ok, ha, hr, hm⟩ := h
  subst ha hr
  obtain ⟨a, cap, hv, hc⟩ := Seg.ptrAt ht.pa
  obtain ⟨g, off, rfl, h7, h8⟩ := hc 0 _ (List.getElem?_eq_getElem ok.p1)
  clear h7 h8
  have HT := Lib.hid ht
  have HOK := Lib.hid ok
  have HPV := Lib.hid hv
  have hpl : s.ps.length ≤ 64 := ok.p2
  have c0 : w.cell? ⟨bt, 0, none⟩ = some (.slice (some ⟨g, off, none⟩) s.ps.length cap) := by rw [← hv]; exact ht.tb.facts.1 0
  have hbt := ht.tb.lt
  obtain ⟨Q, hQ⟩ : ∃ Q, TabR base bt s.room s.A m w (.tuple #[encK (((oldD s.A).map Prod.fst).getD (0, 0)), .bool (oldD s.A).isSome]) = Q := ⟨_, rfl⟩
  have HQ := Lib.hid hQ
  rw [hQ]
  have HM := Lib.hid hm
  clear hQ ht ok hv hc hm
  have HB0 := Lib.hid (Below.chainAlloc (Below.chainAlloc (Below.refl _ w) (.cells #[.int .i64 0, .int .u32 0] 35)) (.cells #[.int .i64 0, .int .u32 0] 35))
  have HST : Hid (OldI (fun e => e ∈ s.es ∧ partOf s.ps.length e.k < 0) (fun e => e ∈ s.es) (0, 0) 0 ∧ TabM base ((w.alloc (.cells #[.int .i64 0, .int .u32 0] 35)).alloc (.cells #[.int .i64 0, .int .u32 0] 35)) bt s none ∧ Turn base KT w ((w.alloc (.cells #[.int .i64 0, .int .u32 0] 35)).alloc (.cells #[.int .i64 0, .int .u32 0] 35)) ∧
      Blk ((w.alloc (.cells #[.int .i64 0, .int .u32 0] 35)).alloc (.cells #[.int .i64 0, .int .u32 0] 35)) (w.heap.size + 1) #[.int .i64 0, .int .u32 0] 35 ∧ Blk ((w.alloc (.cells #[.int .i64 0, .int .u32 0] 35)).alloc (.cells #[.int .i64 0, .int .u32 0] 35)) w.heap.size #[.int .i64 0, .int .u32 0] 35) := Lib.hid
    ⟨.inl ⟨rfl, rfl, fun e he => absurd he.2 (Nat.not_lt_zero _)⟩, HT.out.chain HB0.out, Turn.of_below HB0.out, Blk.newAt (size_alloc _ _).symm, (Blk.new w _ _).alloc _⟩
  go_enter Try.func9, Try.ntmps9
  go_wp2_with fail
  generalize (w.alloc (.cells #[.int .i64 0, .int .u32 0] 35)).alloc (.cells #[.int .i64 0, .int .u32 0] 35) = W0 at *
  generalize hbo : w.heap.size + 1 = bo at *
  generalize hbr : w.heap.size = br at *
  have HBR : Hid (bo = br + 1 ∧ w.heap.size = br) := Lib.hid ⟨hbo.symm, hbr⟩
  have hbne : br ≠ bo := by omega
  clear hbo hbr hbt
  go_loopg [5, 18] s.ps.length (fun gk v i wr => ∃ (j made : Nat) (k : Int × Int), s.ps.length - j ≤ gk ∧ j ≤ s.ps.length ∧ i = .int .i64 (j : Int) ∧ v = .int .i64 (made : Int) ∧
    Hid (OldI (fun e => e ∈ s.es ∧ partOf s.ps.length e.k < j) (fun e => e ∈ s.es) k made ∧ TabM base wr bt s none ∧ Turn base KT w wr ∧ Blk wr bo #[.int .i64 k.1, .int .u32 k.2] 35 ∧ Blk wr br #[.int .i64 0, .int .u32 0] 35))
  case atStart => exact ⟨0, 0, (0, 0), by omega, Nat.zero_le _, rfl, rfl, HST⟩
  case round =>
    clear HST c0
    obtain ⟨j, made, k, hjg, hj, rfl, rfl, HREL⟩ := hrel
    by_cases hlt : j < s.ps.length
    · obtain ⟨p, hp⟩ : ∃ p, s.ps[j]? = some p := ⟨_, List.getElem?_eq_getElem hlt⟩
      have cp := HREL.out.2.1.ptrAt HPV.out hp
      have HD := Lib.hid (oldest_part base bt s j p wr HREL.out.2.1 HOK.out hp)
      have hlt' : (j : Int) < (s.ps.length : Int) := by omega
      unfold encK at HD
      clear hp
      go_wp2_with fail
      refine HD.out.mono ?_
      rintro r w2 ⟨k', made', rfl, hold', ht2, hn2⟩
      have HJ := Lib.hid (HREL.out.1.join (S' := fun e => e ∈ s.es ∧ partOf s.ps.length e.k < j + 1) hold' (fun f hf => by
        by_cases h1 : partOf s.ps.length f.k = j
        · exact .inr ⟨hf.1, h1⟩
        · exact .inl ⟨hf.1, by have := hf.2; omega⟩) (fun f hf => hf.1))
      have HT2 := Lib.hid ht2
      have HN2 : Hid (Turn base KT w w2) := Lib.hid (HREL.out.2.2.1.trans hn2)
      have HO2 : Hid (Blk w2 bo #[.int .i64 k.1, .int .u32 k.2] 35) := Lib.hid (hn2.blk HREL.out.2.2.2.1 (by decide))
      have HR2 : Hid (Blk w2 br #[.int .i64 0, .int .u32 0] 35) := Lib.hid (hn2.blk HREL.out.2.2.2.2 (by decide))
      clear hold' ht2 hn2 HD cp HREL
      have HB3 := Lib.hid (Below.chainAlloc (Below.refl _ w2) (.cells #[.int .i64 k'.1, .int .u32 k'.2] 35))
      have hkb := Blk.new w2 #[.int .i64 k'.1, .int .u32 k'.2] 35
      have HT3 : Hid (TabM base (w2.alloc (.cells #[.int .i64 k'.1, .int .u32 k'.2] 35)) bt s none) := Lib.hid (HT2.out.chain HB3.out)
      have HN3 : Hid (Turn base KT w (w2.alloc (.cells #[.int .i64 k'.1, .int .u32 k'.2] 35))) := Lib.hid (HN2.out.step HB3.out)
      have HO3 := Lib.hid (HO2.out.alloc (.cells #[.int .i64 k'.1, .int .u32 k'.2] 35))
      have HR3 := Lib.hid (HR2.out.alloc (.cells #[.int .i64 k'.1, .int .u32 k'.2] 35))
      have hsz2 : bo < w2.heap.size := HO2.out.lt
      by_cases hc : 0 < made' ∧ (made = 0 ∨ made' < made)
      · have HC := Lib.hid (HJ.out.1 hc)
        have g1 : (0 : Int) < (made' : Int) := by have := hc.1; omega
        have hcase : made = 0 ∨ (¬ made = 0 ∧ made' < made) := by have := hc.2; omega
        clear hc HJ
        rcases hcase with h0 | ⟨h1, h2⟩
        · have hm0 : ((made : Int) == 0) = true := by rw [h0]; rfl
          clear h0
          have o0 := HO2.out.facts.1 0
          have o1 := HO2.out.facts.1 1
          have fo0 := HO2.out.facts.2.1 0
          have fo1 := HO2.out.facts.2.1 1
          clear hkb HT3 HN3 HO3 HR3 HB3
          go_wp2_with fail
          have HOs := Lib.hid ((HO2.out.setAt 0 (.int .i64 k'.1) rfl).setAt 1 (.int .u32 k'.2) rfl)
          have ho2 := only_two w2 bo (.int .i64 k'.1) (.int .u32 k'.2)
          have HTs : Hid (TabM base ((w2.setCell ⟨bo, 0, none⟩ (.int .i64 k'.1)).setCell ⟨bo, 1, none⟩ (.int .u32 k'.2)) bt s none) := Lib.hid (HT2.out.turn (Turn.one (base := 0) (K := [some 35]) ho2 (Nat.zero_le _) HO2.out.kind (by simp)) (by decide) (by decide) (by decide) (by decide) (by decide) (by decide))
          have HNs : Hid (Turn base KT w ((w2.setCell ⟨bo, 0, none⟩ (.int .i64 k'.1)).setCell ⟨bo, 1, none⟩ (.int .u32 k'.2))) := Lib.hid (HN2.out.fresh ho2 (by rw [HBR.out.2, HBR.out.1]; exact Nat.le_succ _))
          have HRs := Lib.hid (HR2.out.only ho2 (by simpa using hbne))
          clear ho2
          go_roundg (s.ps.length - (j + 1))
          case measure => omega
          case rel => exact ⟨j + 1, made', k', Nat.le_refl _, hlt, by go_num, rfl, Lib.hid ⟨HC.out, HTs.out.chain (Below.chainAlloc (Below.refl _ _) _), HNs.out.step (Below.chainAlloc (Below.refl _ _) _), HOs.out.alloc _, HRs.out.alloc _⟩⟩
        · have hm1 : ((made : Int) == 0) = false := beq_eq_false_iff_ne.2 (by omega)
          have hm2 : (made' : Int) < (made : Int) := by omega
          clear h1 h2
          have o0 := HO2.out.facts.1 0
          have o1 := HO2.out.facts.1 1
          have fo0 := HO2.out.facts.2.1 0
          have fo1 := HO2.out.facts.2.1 1
          clear hkb HT3 HN3 HO3 HR3 HB3
          go_wp2_with fail
          have HOs := Lib.hid ((HO2.out.setAt 0 (.int .i64 k'.1) rfl).setAt 1 (.int .u32 k'.2) rfl)
          have ho2 := only_two w2 bo (.int .i64 k'.1) (.int .u32 k'.2)
          have HTs : Hid (TabM base ((w2.setCell ⟨bo, 0, none⟩ (.int .i64 k'.1)).setCell ⟨bo, 1, none⟩ (.int .u32 k'.2)) bt s none) := Lib.hid (HT2.out.turn (Turn.one (base := 0) (K := [some 35]) ho2 (Nat.zero_le _) HO2.out.kind (by simp)) (by decide) (by decide) (by decide) (by decide) (by decide) (by decide))
          have HNs : Hid (Turn base KT w ((w2.setCell ⟨bo, 0, none⟩ (.int .i64 k'.1)).setCell ⟨bo, 1, none⟩ (.int .u32 k'.2))) := Lib.hid (HN2.out.fresh ho2 (by rw [HBR.out.2, HBR.out.1]; exact Nat.le_succ _))
          have HRs := Lib.hid (HR2.out.only ho2 (by simpa using hbne))
          clear ho2
          go_roundg (s.ps.length - (j + 1))
          case measure => omega
          case rel => exact ⟨j + 1, made', k', Nat.le_refl _, hlt, by go_num, rfl, Lib.hid ⟨HC.out, HTs.out.chain (Below.chainAlloc (Below.refl _ _) _), HNs.out.step (Below.chainAlloc (Below.refl _ _) _), HOs.out.alloc _, HRs.out.alloc _⟩⟩
      · have HC := Lib.hid (HJ.out.2 hc)
        have hcase : made' = 0 ∨ (0 < made' ∧ ¬ made = 0 ∧ ¬ made' < made) := by omega
        clear hc HJ
        rcases hcase with h0 | ⟨h0, h1, h2⟩
        · have g1 : ¬ (0 : Int) < (made' : Int) := by omega
          clear h0
          clear hkb
          go_wp2_with fail
          go_roundg (s.ps.length - (j + 1))
          case measure => omega
          case rel => exact ⟨j + 1, made, k, Nat.le_refl _, hlt, by go_num, rfl, Lib.hid ⟨HC.out, HT3.out, HN3.out, HO3.out, HR3.out⟩⟩
        · have g1 : (0 : Int) < (made' : Int) := by omega
          have hm1 : ((made : Int) == 0) = false := beq_eq_false_iff_ne.2 (by omega)
          have hm2 : ¬ (made' : Int) < (made : Int) := by omega
          clear h0 h1 h2
          clear hkb
          go_wp2_with fail
          go_roundg (s.ps.length - (j + 1))
          case measure => omega
          case rel => exact ⟨j + 1, made, k, Nat.le_refl _, hlt, by go_num, rfl, Lib.hid ⟨HC.out, HT3.out, HN3.out, HO3.out, HR3.out⟩⟩
    · obtain rfl : j = s.ps.length := by omega
      have hlt' : ¬ (s.ps.length : Int) < (s.ps.length : Int) := by omega
      have hfin := OldI.old_fin HOK.out.mi (fun e he => (HOK.out.mb e he).1) (k := k) (m := made) (by
        rcases HREL.out.1 with ⟨h1, h2, h3⟩ | ⟨g, h1, h2, h3, h4, h6, h5⟩
        · exact .inl ⟨h1, h2, fun f hf => h3 f ⟨hf, partOf_lt HOK.out.p1 _⟩⟩
        · exact .inr ⟨g, h1, h2, h3, h4, h6, fun f hf hn => h5 f ⟨hf, partOf_lt HOK.out.p1 _⟩ hn⟩)
      have HFIN : Hid (k = ((oldD s.A).map Prod.fst).getD (0, 0) ∧ decide ((0 : Int) < (made : Int)) = (oldD s.A).isSome) := Lib.hid ⟨hfin.1, by
        by_cases h9 : (oldD s.A).isSome = true
        · rw [h9]
          have := hfin.2.2 h9
          exact decide_eq_true (by omega)
        · rw [Bool.not_eq_true] at h9
          rw [h9]
          have : ¬ 0 < made := fun h8 => by have := hfin.2.1 h8; unfold TS.A at h9; rw [h9] at this; cases this
          exact decide_eq_false (by omega)⟩
      have ko0 := HREL.out.2.2.2.1.facts.1 0
      have ko1 := HREL.out.2.2.2.1.facts.1 1
      have kr0 := HREL.out.2.2.2.2.facts.1 0
      have kr1 := HREL.out.2.2.2.2.facts.1 1
      have fr0 := HREL.out.2.2.2.2.facts.2.1 0
      have fr1 := HREL.out.2.2.2.2.facts.2.1 1
      clear hfin hlt
      go_wp2_with fail
      have hRs := (HREL.out.2.2.2.2.setAt 0 (.int .i64 k.1) rfl).setAt 1 (.int .u32 k.2) rfl
      have ho2 := only_two wr br (.int .i64 k.1) (.int .u32 k.2)
      have hTs : TabM base ((wr.setCell ⟨br, 0, none⟩ (.int .i64 k.1)).setCell ⟨br, 1, none⟩ (.int .u32 k.2)) bt s none := HREL.out.2.1.turn (Turn.one (base := 0) (K := [some 35]) ho2 (Nat.zero_le _) HREL.out.2.2.2.2.kind (by simp)) (by decide) (by decide) (by decide) (by decide) (by decide) (by decide)
      have hNs : Turn base KT w ((wr.setCell ⟨br, 0, none⟩ (.int .i64 k.1)).setCell ⟨br, 1, none⟩ (.int .u32 k.2)) := HREL.out.2.2.1.fresh ho2 (by rw [HBR.out.2]; exact Nat.le_refl _)
      have z0 := hRs.facts.1 0
      have z1 := hRs.facts.1 1
      generalize (wr.setCell ⟨br, 0, none⟩ (.int .i64 k.1)).setCell ⟨br, 1, none⟩ (.int .u32 k.2) = ws at *
      refine bodyPost_ret (v := .tuple #[encK k, .bool (decide ((0 : Int) < (made : Int)))]) (by simp [results, Try.results9, go_sem, encK, z0, z1]) rfl ?_
      rw [← HQ.out, HFIN.out.2, HFIN.out.1]
      exact ⟨rfl, ⟨s, hTs, HOK.out, rfl, rfl, HM.out⟩, hNs⟩
end Go.Proofs.Ytnommofekjiiaaa
