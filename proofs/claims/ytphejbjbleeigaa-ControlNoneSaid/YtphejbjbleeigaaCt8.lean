/-
  What is to be said: Ask (chapter 25).
-/
import Derived.Test.YtphejbjbleeigaaCt7
import Derived.Deep.RegionHeld3
import Derived.Deep.RegionLaw
import Derived.StillTailTactics
namespace Go.Proofs.Ytphejbjbleeigaa
open Go Go.RowKit
set_option linter.unusedVariables false
set_option maxRecDepth 100000
set_option maxHeartbeats 4000000
def askE (d : Dg) : Int := if dgE d ≠ 0 then dgE d else if d.kind = 1 ∨ d.kind = 2 then 1 else 0
def askL (ds : List Dg) (d : Dg) : List Dg := match ds.findIdx? fun x => likeB x d with
  | some i => ds.set i d
  | none => ds ++ [d]
theorem infoDg : (Try.prog.info? 24).map (fun i => (i.zero, i.size, i.bytes)) = some (some dg0.val, 10, 96) := by kernel_rfl
theorem ask_bad (d : Dg) (bc : Nat) (w : World) (hh : d.have'.length ≤ 9223372036854775807) (hl : d.body.length ≤ 9223372036854775807) (he : askE d ≠ 0) :
    Calls Try.prog 27 #[.pointer (some ⟨bc, 0, none⟩), d.val] w (RetB (.int .i64 (askE d)) w) := by
  have HC := Lib.hid (fun w' => check_dg d hh hl w')
  have hba : Below w.heap.size w (w.alloc (.cells d.vals.toArray 24)) := Below.chainAlloc (Below.refl _ _) _
  have kb := Blk.new w d.vals.toArray 24
  have HKB := Lib.hid (And.intro kb hba)
  unfold askE at he ⊢
  by_cases h1 : dgE d = 0
  · have h2 : d.kind = 1 ∨ d.kind = 2 := by
      rw [h1] at he
      simp at he
      by_cases hk : d.kind = 1
      · exact .inl hk
      · exact .inr (he hk)
    rw [if_neg (by simpa using h1), if_pos h2]
    rw [h1] at HC
    clear he h1 kb hba
    obtain ⟨d0, d1, d2, d3, d4, d5, d6, d7, d8, d9⟩ := d
    simp only at h2
    go_enter Try.func27, Try.ntmps27
    go_wp2_with fail
    refine (HC.out _).mono ?_
    rintro e w1 ⟨rfl, hb1⟩
    have kb1 := HKB.out.1.below hb1 HKB.out.1.lt
    have y0 : w1.cell? ⟨w.heap.size, 0, none⟩ = some (.int .i64 d0) := kb1.facts.1 0
    have HB := Lib.hid (Below.chain hb1 HKB.out.2)
    clear hb1 kb1
    rcases h2 with h2 | h2
    · subst h2
      go_wp2_with fail
      go_ret
      exact ⟨rfl, HB.out⟩
    · subst h2
      go_wp2_with fail
      go_ret
      exact ⟨rfl, HB.out⟩
  · rw [if_pos h1]
    have h1b : (dgE d != 0) = true := by simpa using h1
    generalize dgE d = z at *
    clear he kb hba
    obtain ⟨d0, d1, d2, d3, d4, d5, d6, d7, d8, d9⟩ := d
    go_enter Try.func27, Try.ntmps27
    go_wp2_with fail
    refine (HC.out _).mono ?_
    rintro e w1 ⟨rfl, hb1⟩
    have HB := Lib.hid (Below.chain hb1 HKB.out.2)
    clear hb1
    go_wp2_with fail
    go_ret
    exact ⟨rfl, HB.out⟩
theorem ask_ok (d : Dg) (bc base : Nat) (v : Value) (ds : List Dg) (w : World) (hh : d.have'.length ≤ 9223372036854775807) (hl : d.body.length ≤ 9223372036854775807) (h : Ctl w bc base v ds) (hbase : base ≤ w.heap.size) (hds : ds.length ≤ 1000) (he : askE d = 0) :
    Calls Try.prog 27 #[.pointer (some ⟨bc, 0, none⟩), d.val] w (CtlPost (.int .i64 0) bc base v (askL ds d) w) := by
  have h1 : dgE d = 0 ∧ d.kind ≠ 1 ∧ d.kind ≠ 2 := by
    unfold askE at he
    split at he
    · contradiction
    · split at he
      · contradiction
      · omega
  obtain ⟨h0, hk1, hk2⟩ := h1
  have HC := Lib.hid (fun w' => check_dg d hh hl w')
  rw [h0] at HC
  have hba : Below w.heap.size w (w.alloc (.cells d.vals.toArray 24)) := Below.chainAlloc (Below.refl _ _) _
  have HKB := Lib.hid (And.intro (Blk.new w d.vals.toArray 24) (And.intro hba h))
  have hblt := h.b.lt
  have HIX : Hid (∀ b w', Blk w' b d.vals.toArray 24 → Below w.heap.size w w' → Calls Try.prog 73 #[v, .func (.func 110) #[] #[.pointer (some ⟨b, 0, none⟩)]] w' (RetB (.int .i64 (idxD (fun x => likeB x d) ds)) w')) :=
    Lib.hid fun b w' hb hw => idx_dg _ _ _ base v ds w' (enters_of Try.func110 (by kernel_rfl) rfl) (fun x w2 h2 => like_cl x d b w2 (hb.below h2 hb.lt)) (h.s.chain hw)
  have HBC := Lib.hid (And.intro hbase hds)
  have HLK : Hid (∀ w', Calls Try.prog 74 #[d.val] w' fun e w2 => ∃ b, e = .returned (.func (.func 110) #[] #[.pointer (some ⟨b, 0, none⟩)]) ∧ Blk w2 b d.vals.toArray 24 ∧ Below w'.heap.size w' w2) :=
    Lib.hid fun w' => (like_any d w').mono fun e w2 h => ⟨_, h.1, h.2 ▸ Blk.new _ _ _, h.2 ▸ Below.chainAlloc (Below.refl _ _) _⟩
  have HDV : Hid (∀ (i : Nat) (hi : i < ds.length), likeB ds[i] d = true → (∀ x ∈ ds.take i, likeB x d = false) → askL ds d = ds.set i d) := Lib.hid fun i hi h1 h2 => by
    unfold askL
    rw [find_at (fun x => likeB x d) ds i hi h2 h1]
  have HDN : Hid ((∀ x ∈ ds, likeB x d = false) → askL ds d = ds ++ [d]) := Lib.hid fun h1 => by
    unfold askL
    rw [List.findIdx?_eq_none_iff.2 h1]
  have HSP := Lib.hid (idx_spec (fun x => likeB x d) ds)
  generalize hIX : idxD (fun x => likeB x d) ds = ix at *
  have hk1b : (d.kind == 1) = false := beq_eq_false_iff_ne.2 hk1
  have hk2b : (d.kind == 2) = false := beq_eq_false_iff_ne.2 hk2
  obtain ⟨a, cap, rfl⟩ := h.s.form
  clear hba h he hbase hds h0
  obtain ⟨d0, d1, d2, d3, d4, d5, d6, d7, d8, d9⟩ := d
  simp only at hk1b hk2b hk1 hk2
  go_enter Try.func27, Try.ntmps27
  go_wp2_with fail
  refine (HC.out _).mono ?_
  rintro e w1 ⟨rfl, hb1⟩
  have kb1 := HKB.out.1.below hb1 HKB.out.1.lt
  have hbb := Below.chain hb1 HKB.out.2.1
  have y0 : w1.cell? ⟨w.heap.size, 0, none⟩ = some (.int .i64 d0) := kb1.facts.1 0
  have HMK : Hid (∀ w', Below w1.heap.size w1 w' → ((w'.cell? ⟨w.heap.size, 0, none⟩ = some (.int .i64 d0) ∧ w'.cell? ⟨w.heap.size, 1, none⟩ = some (.int .i64 d1) ∧ w'.cell? ⟨w.heap.size, 2, none⟩ = some (.int .u32 d2) ∧ w'.cell? ⟨w.heap.size, 3, none⟩ = some (.int .i64 d3) ∧ w'.cell? ⟨w.heap.size, 4, none⟩ = some (.int .i64 d4) ∧
      w'.cell? ⟨w.heap.size, 5, none⟩ = some (.int .i64 d5) ∧ w'.cell? ⟨w.heap.size, 6, none⟩ = some (.int .i64 d6) ∧ w'.cell? ⟨w.heap.size, 7, none⟩ = some (.int .i64 d7) ∧ w'.cell? ⟨w.heap.size, 8, none⟩ = some (Str d8) ∧ w'.cell? ⟨w.heap.size, 9, none⟩ = some (Str d9)) ∧ w'.cell? ⟨bc, 0, none⟩ = some (.slice a ds.length cap)) ∧ Below w1.heap.size w1 w') := Lib.hid fun w' hw => by
    have k2 := (kb1.below hw kb1.lt).facts.1
    have k3 := (HKB.out.2.2.chain (Below.chain hw hbb)).b.facts.1
    exact ⟨⟨⟨k2 0, k2 1, k2 2, k2 3, k2 4, k2 5, k2 6, k2 7, k2 8, k2 9⟩, k3 0⟩, hw⟩
  have HIX1 : Hid (∀ b w', Blk w' b (Dg.vals ⟨d0, d1, d2, d3, d4, d5, d6, d7, d8, d9⟩).toArray 24 → Below w1.heap.size w1 w' → Calls Try.prog 73 #[.slice a ds.length cap, .func (.func 110) #[] #[.pointer (some ⟨b, 0, none⟩)]] w' (RetB (.int .i64 ix) w')) :=
    Lib.hid fun b w' hb hw => HIX.out b w' hb (Below.chain hw hbb)
  have HB1 := Lib.hid (And.intro hbb kb1)
  clear hb1 kb1 hbb HIX
  go_upto_region 8 with fail
  go_region_held3 (fun w' => ((w'.cell? ⟨w.heap.size, 0, none⟩ = some (.int .i64 d0) ∧ w'.cell? ⟨w.heap.size, 1, none⟩ = some (.int .i64 d1) ∧ w'.cell? ⟨w.heap.size, 2, none⟩ = some (.int .u32 d2) ∧ w'.cell? ⟨w.heap.size, 3, none⟩ = some (.int .i64 d3) ∧ w'.cell? ⟨w.heap.size, 4, none⟩ = some (.int .i64 d4) ∧
      w'.cell? ⟨w.heap.size, 5, none⟩ = some (.int .i64 d5) ∧ w'.cell? ⟨w.heap.size, 6, none⟩ = some (.int .i64 d6) ∧ w'.cell? ⟨w.heap.size, 7, none⟩ = some (.int .i64 d7) ∧ w'.cell? ⟨w.heap.size, 8, none⟩ = some (Str d8) ∧ w'.cell? ⟨w.heap.size, 9, none⟩ = some (Str d9)) ∧ w'.cell? ⟨bc, 0, none⟩ = some (.slice a ds.length cap)) ∧ Below w1.heap.size w1 w')
    (first
      | exact HMK.out _ (Below.refl _ _).drew
      | exact HMK.out _ (Below.refl _ _)
      | (go_split_ands; exact HMK.out _ (Below.chain hb4 (by assumption)))
      | (go_split_ands; exact HMK.out _ (Below.chain hbL (by first | assumption | exact (Below.refl _ _).drew | exact Below.refl _ _))))
    (first
      | (go_at_call 74; refine (HLK.out _).mono ?_; rintro x w3 ⟨bL, rfl, hkL, hbL⟩)
      | (go_at_call 73; refine (HIX1.out bL _ hkL (by go_split_ands; assumption)).mono ?_; rintro x w4 ⟨rfl, hb4⟩))
  have hbw : Below w.heap.size w w4 := Below.chain hb4 (Below.chain (Below.chain hbL (Below.refl _ _).drew) HB1.out.1)
  have hc := HKB.out.2.2.chain hbw
  have kb4 : Blk w4 w.heap.size (Dg.vals ⟨d0, d1, d2, d3, d4, d5, d6, d7, d8, d9⟩).toArray 24 := HB1.out.2.below (Below.chain hb4 (Below.chain hbL (Below.refl _ _).drew)) HB1.out.2.lt
  have z0 : w4.cell? ⟨w.heap.size, 0, none⟩ = some (.int .i64 d0) := kb4.facts.1 0
  have z1 : w4.cell? ⟨w.heap.size, 1, none⟩ = some (.int .i64 d1) := kb4.facts.1 1
  have z2 : w4.cell? ⟨w.heap.size, 2, none⟩ = some (.int .u32 d2) := kb4.facts.1 2
  have z3 : w4.cell? ⟨w.heap.size, 3, none⟩ = some (.int .i64 d3) := kb4.facts.1 3
  have z4 : w4.cell? ⟨w.heap.size, 4, none⟩ = some (.int .i64 d4) := kb4.facts.1 4
  have z5 : w4.cell? ⟨w.heap.size, 5, none⟩ = some (.int .i64 d5) := kb4.facts.1 5
  have z6 : w4.cell? ⟨w.heap.size, 6, none⟩ = some (.int .i64 d6) := kb4.facts.1 6
  have z7 : w4.cell? ⟨w.heap.size, 7, none⟩ = some (.int .i64 d7) := kb4.facts.1 7
  have z8 : w4.cell? ⟨w.heap.size, 8, none⟩ = some (Str d8) := kb4.facts.1 8
  have z9 : w4.cell? ⟨w.heap.size, 9, none⟩ = some (Str d9) := kb4.facts.1 9
  have q0 : w4.cell? ⟨bc, 0, none⟩ = some (.slice a ds.length cap) := hc.b.facts.1 0
  have q1 := hc.b.facts.2.1 0
  have HW := Lib.hid (And.intro hbw (And.intro hc kb4))
  clear hbw hc kb4 hb4 hbL hkL HB1 HIX1 HMK HLK HC hIX
  rcases HSP.out with ⟨rfl, hno⟩ | ⟨i, rfl, hi, hp, hno⟩
  · have HDE := Lib.hid (HDN.out hno)
    clear hno HSP HDN HDV
    have hds := HBC.out.2
    have hblt4 := HW.out.2.1.b.lt
    have hwlt4 := HW.out.2.2.lt
    have hne : some bc ≠ (Value.slice a ds.length cap).ownBlock := fun e => HW.out.2.1.ne bc e.symm rfl
    obtain ⟨i0, hi, hz0, hz1, hz2⟩ := info_parts infoDg
    have hfin : ∀ (g off cp : Nat) (w5 : World), Seg w5 base 24 10 (.slice (some ⟨g, off, none⟩) (ds.length + 1) cp) (ds.length + 1) (dgC ds ++ Dg.vals ⟨d0, d1, d2, d3, d4, d5, d6, d7, d8, d9⟩) → Blk w5 bc #[.slice a ds.length cap] 132 → Only (Value.slice a ds.length cap).ownBlock.toList w4 w5 →
        ((Value.slice a ds.length cap).ownBlock = some g ∨ w4.heap.size ≤ g) → CtlPost (.int .i64 0) bc base (.slice a ds.length cap) (askL ds ⟨d0, d1, d2, d3, d4, d5, d6, d7, d8, d9⟩) w (.returned (.int .i64 0)) (w5.setCell ⟨bc, 0, none⟩ (.slice (some ⟨g, off, none⟩) (ds.length + 1) cp)) := by
      intro g off cp w5 hs hb ho hat
      have hgb : g ≠ bc := by
        rcases hat with h | h
        · exact HW.out.2.1.ne g h
        · omega
      rw [HDE.out]
      refine ⟨.slice (some ⟨g, off, none⟩) (ds.length + 1) cp, rfl, ⟨hb.setAt 0 _ (by simp), ?_, fun x hx => ?_⟩, ?_, ?_⟩
      · have h2 := hs.setOther ⟨bc, 0, none⟩ (.slice (some ⟨g, off, none⟩) (ds.length + 1) cp) (fun x hx => by
          have : g = x := by simpa [Value.ownBlock] using hx
          exact this ▸ hgb)
        rw [← dgC_snoc] at h2
        simpa using h2
      · have : g = x := by simpa [Value.ownBlock] using hx
        exact this ▸ hgb
      · exact ((Only.of_below HW.out.1).trans' (S' := (Value.slice a ds.length cap).ownBlock.toList) ho (fun x hx => .inl (List.mem_cons_of_mem _ hx))).setCell _ _ (.inl (by simp))
      · rcases hat with h | h
        · exact .inl h.symm
        · exact .inr ⟨g, rfl, by have := HW.out.1.size; omega⟩
    have HFIN := Lib.hid hfin
    clear hfin
    go_upto_region 11 with fail
    have hbs4 : base ≤ w4.heap.size := by have := HBC.out.1; omega
    go_region_law (refine step_append_seg _ rfl _ _ 46 rfl base 24 i0 _ 10 96 Try.underlying46 hi hz0 hz1 hz2 rfl (by decide) (.slice a ds.length cap) ds.length (dgC ds) ?g1 ?g2 ⟨w4.heap.size, 0, none⟩ 1 1 (Dg.vals ⟨d0, d1, d2, d3, d4, d5, d6, d7, d8, d9⟩) ?g3 rfl ?g4 (by simp [Dg.vals, Value.oneCell']) (by decide) ?h1 ?h2 ?g5 (w4.heap.size + 1) ?g6 ?_; (case g1 => rfl); (case h1 => unfold maxLen; omega); (case h2 => omega); (case g2 => exact (HW.out.2.1.s.alloc _).drew); (case g3 => rfl); (case g4 => exact cells_new _ _ _); (case g5 => simp; omega); (case g6 => exact size_alloc _ _); intro g off cp w5 hown hgrow hat; have hk := (Blk.drew (HW.out.2.1.b.alloc _)).grown hgrow hne; have g0 : w5.cell? ⟨bc, 0, none⟩ = some (.slice a ds.length cap) := hk.facts.1 0; have g1 : w5.frozen? ⟨bc, 0, none⟩ = false := hk.facts.2.1 0; have hO := Only.grown (S := (Value.slice a ds.length cap).ownBlock.toList) (Only.drew (Only.alloc (Only.refl _ w4) _)) hgrow (fun x hx => .inl (by rw [hx]; simp)); clear hgrow)
    all_goals
      go_wp2_with fail
      go_ret
      exact HFIN.out _ _ _ _ hown hk hO (hat.imp id (fun e => by omega))
  · have HDE := Lib.hid (HDV.out i hi hp hno)
    clear hno HSP HDN HDV hp
    obtain ⟨g, off, _, e, hgb, hgw, hcap, _⟩ := HW.out.2.1.s.shape (by omega)
    cases e
    have hii : (i : Int) < (ds.length : Int) := by omega
    have hi0 : (0 : Int) ≤ (i : Int) := by omega
    have hseg := HW.out.2.1.s
    have hsc : ∀ j, j < 10 → (w4.cell? ⟨g, off + i * 10 + j, none⟩).isSome = true := fun j hj => by
      have h1 := hseg.at (i * 10 + j) (by omega)
      rw [← Nat.add_assoc] at h1
      rw [h1, List.getElem?_eq_getElem (by rw [hseg.1]; omega)]
      rfl
    have hS := hseg.drew.puts (Dg.vals ⟨d0, d1, d2, d3, d4, d5, d6, d7, d8, d9⟩) (i * 10) (by simp [Dg.vals]; omega)
    rw [dgC_sets ds i hi ⟨d0, d1, d2, d3, d4, d5, d6, d7, d8, d9⟩] at hS
    have hO := Only.puts (S := [g]) (List.mem_singleton_self g) (Dg.vals ⟨d0, d1, d2, d3, d4, d5, d6, d7, d8, d9⟩) (off + i * 10) (Only.refl _ w4).drew
    have hgbc := HW.out.2.1.ne g rfl
    have hbk := HW.out.2.1.b.only hO (by simpa using fun e => hgbc e.symm)
    have HF := Lib.hid (And.intro hS (And.intro hO hbk))
    have HSC := Lib.hid (And.intro hsc hseg.free)
    clear hS hO hsc hseg hbk
    go_upto_region 10 with fail
    go_still_tail 7, (by kernel_rfl)
    change wpList _ _ _ _ _ w4.drew
    refine wpList_store_cells rfl 24 (.tmp 39) (.tmp 38) rfl rfl g (off + i * 10) #[.int .i64 d0, .int .i64 d1, .int .u32 d2, .int .i64 d3, .int .i64 d4, .int .i64 d5, .int .i64 d6, .int .i64 d7, Str d8, Str d9] rfl rfl (by kernel_rfl) HSC.out.1 HSC.out.2 (by simp [Value.oneCell']) ?_
    clear z0 z1 z2 z3 z4 z5 z6 z7 z8 z9
    go_wp2_with fail
    go_ret
    refine ⟨.slice (some ⟨g, off, none⟩) ds.length cap, rfl, ⟨?_, ?_, HW.out.2.1.ne⟩, ?_, .inl rfl⟩
    · exact HF.out.2.2
    · rw [HDE.out, List.length_set]
      exact HF.out.1
    · exact (Only.of_below HW.out.1).trans (HF.out.2.1.mono (fun x hx => .inl (by simp at hx; simp [hx, Value.ownBlock])))
end Go.Proofs.Ytphejbjbleeigaa
