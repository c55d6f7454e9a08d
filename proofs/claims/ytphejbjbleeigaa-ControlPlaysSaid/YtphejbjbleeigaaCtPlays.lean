/-
  The law ControlPlays returns true for every list of deeds. No condition.
-/
import Derived.Test.YtphejbjbleeigaaCt13
namespace Go.Proofs.Ytphejbjbleeigaa
open Go Go.RowKit
set_option linter.unusedVariables false
set_option maxRecDepth 100000
set_option maxHeartbeats 8000000
open Go.ChangeShapes Go.WideShapes Go.ChangeAt
theorem cplay_many (a : Option Addr) (len cap : Nat) (w : World) (h : 60 < len) : Calls Try.prog 7 #[.slice a len cap] w (RetB (.bool true) w) := by
  have hl2 : (60 : Int) < (len : Int) := by omega
  go_enter Try.func7, Try.ntmps7
  go_wp2_with fail
  refine (awake25_ok _).mono ?_
  rintro e w1 ⟨rfl, hb⟩
  go_wp2_with fail
  go_ret
  exact ⟨rfl, hb⟩
theorem cplay_few (a : Option Addr) (len cap : Nat) (l : List CD) (w : World) (hz : IsRows 11 CD.cells w a len cap l) (hgood : ∀ r ∈ l, r.good) (h : len ≤ 60) : Calls Try.prog 7 #[.slice a len cap] w (RetB (.bool true) w) := by
  have hl2 : ¬ (60 : Int) < (len : Int) := by omega
  have HZ := Lib.hid hz
  have HGD := Lib.hid hgood
  clear hz hgood
  go_enter Try.func7, Try.ntmps7
  go_wp2_with fail
  refine (cnew_any _).mono ?_
  rintro e w1 ⟨rfl, hw1⟩
  have HR0 : Hid (R25 w w.heap.size (.slice none 0 0) [] [] w1) := Lib.hid (hw1 ▸ ⟨_, Ctl.new w w.heap.size, Seg.nil _ _ _ _, fun g hg => (by cases hg), Below.chainAlloc (Below.refl _ _) _, Nat.le_refl _⟩)
  clear hw1
  have hl3 : (len : Int) ≤ 60 := by omega
  obtain ⟨bc, hbc⟩ : ∃ bc, w.heap.size = bc := ⟨_, rfl⟩
  rw [hbc] at HR0 ⊢
  have HBC := Lib.hid hbc
  clear hbc
  go_wp2_with fail
  go_loopw [4, 5] (fun xv i wr => ∃ (k : Nat) (ds : List Dg), k ≤ len ∧ i = .int .i64 k ∧ ds.length ≤ k ∧ Hid (Good25 ds) ∧ Hid (R25 w bc xv ds ds wr)) (fun _ i _ => len - (intOf i).toNat)
  case atStart => exact ⟨0, [], Nat.zero_le _, rfl, Nat.le_refl _, Lib.hid ⟨List.Pairwise.nil, by simp⟩, HR0⟩
  case round =>
    clear HR0
    obtain ⟨k, ds, hk, rfl, hdk, HG, HR⟩ := hrel
    by_cases hlt : k < len
    · obtain ⟨g, off, hk', rfl, hg, hcell⟩ := HZ.out.at k hlt
      have hgd := HGD.out _ (List.getElem_mem hk')
      obtain ⟨c, hc⟩ : ∃ c, l[k] = c := ⟨_, rfl⟩
      rw [hc] at hcell hgd
      obtain ⟨kd, d0, d1, d2, d3, d4, d5, d6, d7, d8, d9⟩ := c
      have HCELL := Lib.hid hcell
      have HGB : Hid (0 ≤ d2 ∧ d2 < 4294967296) := Lib.hid hgd
      have HLT := Lib.hid hlt
      have hki : (k : Int) < (len : Int) := by omega
      have hds : ds.length ≤ 1000 := by omega
      clear hcell hgd hc
      have e0 : wr.cell? ⟨g, off + k * 11, none⟩ = some (.int .i64 kd) := (HR.out.below.cell (p := ⟨g, _, none⟩) hg).trans (HCELL.out 0 (by decide))
      have e1 : wr.cell? ⟨g, off + k * 11 + 1, none⟩ = some (.int .i64 d0) := (HR.out.below.cell (p := ⟨g, _, none⟩) hg).trans (HCELL.out 1 (by decide))
      have e2 : wr.cell? ⟨g, off + k * 11 + 2, none⟩ = some (.int .i64 d1) := (HR.out.below.cell (p := ⟨g, _, none⟩) hg).trans (HCELL.out 2 (by decide))
      have e3 : wr.cell? ⟨g, off + k * 11 + 3, none⟩ = some (.int .u32 d2) := (HR.out.below.cell (p := ⟨g, _, none⟩) hg).trans (HCELL.out 3 (by decide))
      have e4 : wr.cell? ⟨g, off + k * 11 + 4, none⟩ = some (.int .i64 d3) := (HR.out.below.cell (p := ⟨g, _, none⟩) hg).trans (HCELL.out 4 (by decide))
      have e5 : wr.cell? ⟨g, off + k * 11 + 5, none⟩ = some (.int .i64 d4) := (HR.out.below.cell (p := ⟨g, _, none⟩) hg).trans (HCELL.out 5 (by decide))
      have e6 : wr.cell? ⟨g, off + k * 11 + 6, none⟩ = some (.int .i64 d5) := (HR.out.below.cell (p := ⟨g, _, none⟩) hg).trans (HCELL.out 6 (by decide))
      have e7 : wr.cell? ⟨g, off + k * 11 + 7, none⟩ = some (.int .i64 d6) := (HR.out.below.cell (p := ⟨g, _, none⟩) hg).trans (HCELL.out 7 (by decide))
      have e8 : wr.cell? ⟨g, off + k * 11 + 8, none⟩ = some (.int .i64 d7) := (HR.out.below.cell (p := ⟨g, _, none⟩) hg).trans (HCELL.out 8 (by decide))
      have e9 : wr.cell? ⟨g, off + k * 11 + 9, none⟩ = some (Str d8) := (HR.out.below.cell (p := ⟨g, _, none⟩) hg).trans (HCELL.out 9 (by decide))
      have e10 : wr.cell? ⟨g, off + k * 11 + 10, none⟩ = some (Str d9) := (HR.out.below.cell (p := ⟨g, _, none⟩) hg).trans (HCELL.out 10 (by decide))
      have hR := HR.out
      obtain ⟨ax, cx, rfl⟩ := hR.seg.form
      by_cases hbig : 1100 < d9.length
      · have hb1 : (1100 : Int) < (d9.length : Int) := by omega
        clear hR
        go_wp2_with fail
        go_roundw
        case measure => have := HLT.out; simp [intOf]; omega
        case rel => exact ⟨k + 1, ds, HLT.out, by go_num, Nat.le_succ_of_le hdk, HG, HR⟩
      · have hb1 : ¬ (1100 : Int) < (d9.length : Int) := by omega
        by_cases hhv : 100 < d8.length
        · have hb2 : (100 : Int) < (d8.length : Int) := by omega
          clear hR
          go_wp2_with fail
          go_roundw
          case measure => have := HLT.out; simp [intOf]; omega
          case rel => exact ⟨k + 1, ds, HLT.out, by go_num, Nat.le_succ_of_le hdk, HG, HR⟩
        · have hb2 : ¬ (100 : Int) < (d8.length : Int) := by omega
          by_cases hk0 : kd = 0
          · subst hk0
            have HPA : Hid (∀ xv w', R25 w bc xv (if askE ⟨d0, d1, d2, d3, d4, d5, d6, d7, d8, d9⟩ = 0 then rAskL ds ⟨d0, d1, d2, d3, d4, d5, d6, d7, d8, d9⟩ else ds) ds w' → Calls Try.prog 27 #[.pointer (some ⟨bc, 0, none⟩), Dg.val ⟨d0, d1, d2, d3, d4, d5, d6, d7, d8, d9⟩] w' fun e w2 => e = .returned (.int .i64 (askE ⟨d0, d1, d2, d3, d4, d5, d6, d7, d8, d9⟩)) ∧ R25 w bc xv (if askE ⟨d0, d1, d2, d3, d4, d5, d6, d7, d8, d9⟩ = 0 then rAskL ds ⟨d0, d1, d2, d3, d4, d5, d6, d7, d8, d9⟩ else ds) (if askE ⟨d0, d1, d2, d3, d4, d5, d6, d7, d8, d9⟩ = 0 then askL ds ⟨d0, d1, d2, d3, d4, d5, d6, d7, d8, d9⟩ else ds) w2) :=
              Lib.hid fun xv w' h => p_ask ⟨d0, d1, d2, d3, d4, d5, d6, d7, d8, d9⟩ (by show d8.length ≤ _; omega) (by show d9.length ≤ _; omega) hds h
            have HRA := Lib.hid (r_ask (xv := .slice ax ds.length cx) ⟨d0, d1, d2, d3, d4, d5, d6, d7, d8, d9⟩ (by show d8.length ≤ _; omega) (by show d9.length ≤ _; omega) hds hR)
            rw [ask_eq ⟨d0, d1, d2, d3, d4, d5, d6, d7, d8, d9⟩ HG.out.1] at HPA HRA
            have HGA : Hid (Good25 (if askE ⟨d0, d1, d2, d3, d4, d5, d6, d7, d8, d9⟩ = 0 then askL ds ⟨d0, d1, d2, d3, d4, d5, d6, d7, d8, d9⟩ else ds)) := Lib.hid (by
              split
              · exact HG.out.ask HGB.out
              · exact HG.out)
            have hda : (if askE ⟨d0, d1, d2, d3, d4, d5, d6, d7, d8, d9⟩ = 0 then askL ds ⟨d0, d1, d2, d3, d4, d5, d6, d7, d8, d9⟩ else ds).length ≤ ds.length + 1 := by
              split
              · exact ask_len _ _
              · omega
            clear hR
            generalize askE ⟨d0, d1, d2, d3, d4, d5, d6, d7, d8, d9⟩ = z at *
            generalize (if z = 0 then askL ds ⟨d0, d1, d2, d3, d4, d5, d6, d7, d8, d9⟩ else ds) = ds' at *
            go_wp2_with fail
            refine HRA.out.mono ?_
            rintro e w2 ⟨xv', rfl, hR2⟩
            clear HRA e0 e1 e2 e3 e4 e5 e6 e7 e8 e9 e10
            have e0 : w2.cell? ⟨g, off + k * 11, none⟩ = some (.int .i64 0) := (hR2.below.cell (p := ⟨g, _, none⟩) hg).trans (HCELL.out 0 (by decide))
            have e1 : w2.cell? ⟨g, off + k * 11 + 1, none⟩ = some (.int .i64 d0) := (hR2.below.cell (p := ⟨g, _, none⟩) hg).trans (HCELL.out 1 (by decide))
            have e2 : w2.cell? ⟨g, off + k * 11 + 2, none⟩ = some (.int .i64 d1) := (hR2.below.cell (p := ⟨g, _, none⟩) hg).trans (HCELL.out 2 (by decide))
            have e3 : w2.cell? ⟨g, off + k * 11 + 3, none⟩ = some (.int .u32 d2) := (hR2.below.cell (p := ⟨g, _, none⟩) hg).trans (HCELL.out 3 (by decide))
            have e4 : w2.cell? ⟨g, off + k * 11 + 4, none⟩ = some (.int .i64 d3) := (hR2.below.cell (p := ⟨g, _, none⟩) hg).trans (HCELL.out 4 (by decide))
            have e5 : w2.cell? ⟨g, off + k * 11 + 5, none⟩ = some (.int .i64 d4) := (hR2.below.cell (p := ⟨g, _, none⟩) hg).trans (HCELL.out 5 (by decide))
            have e6 : w2.cell? ⟨g, off + k * 11 + 6, none⟩ = some (.int .i64 d5) := (hR2.below.cell (p := ⟨g, _, none⟩) hg).trans (HCELL.out 6 (by decide))
            have e7 : w2.cell? ⟨g, off + k * 11 + 7, none⟩ = some (.int .i64 d6) := (hR2.below.cell (p := ⟨g, _, none⟩) hg).trans (HCELL.out 7 (by decide))
            have e8 : w2.cell? ⟨g, off + k * 11 + 8, none⟩ = some (.int .i64 d7) := (hR2.below.cell (p := ⟨g, _, none⟩) hg).trans (HCELL.out 8 (by decide))
            have e9 : w2.cell? ⟨g, off + k * 11 + 9, none⟩ = some (Str d8) := (hR2.below.cell (p := ⟨g, _, none⟩) hg).trans (HCELL.out 9 (by decide))
            have e10 : w2.cell? ⟨g, off + k * 11 + 10, none⟩ = some (Str d9) := (hR2.below.cell (p := ⟨g, _, none⟩) hg).trans (HCELL.out 10 (by decide))
            clear HR
            go_wp2_with fail
            refine (HPA.out _ _ hR2).mono ?_
            rintro e w3 ⟨rfl, hR⟩
            clear hR2 HPA e0 e1 e2 e3 e4 e5 e6 e7 e8 e9 e10
            obtain ⟨ax, cx, rfl⟩ := hR.seg.form
            go_wp2_with fail
            refine (p_len hR).mono ?_
            rintro x w9 ⟨rfl, hR9⟩
            have HR9 := Lib.hid hR9
            clear hR hR9
            go_wp2_with fail
            go_roundw
            case measure => have := HLT.out; simp [intOf]; omega
            case rel => exact ⟨k + 1, ds', HLT.out, by go_num, by omega, HGA, HR9⟩
          · have hk0b : (kd == 0) = false := beq_eq_false_iff_ne.2 hk0
            by_cases hk1 : kd = 1
            · subst hk1
              cases ds with
              | nil =>
                go_wp2_with fail
                refine (p_none hR).mono ?_
                rintro e w2 ⟨rfl, hR2⟩
                have hR := hR2.chain (Below.chainAlloc (Below.refl _ _) (.cells dg0.vals.toArray 24))
                clear hR2
                clear e0 e1 e2 e3 e4 e5 e6 e7 e8 e9 e10
                go_upto_region 23 with fail
                go_quiet (fail)
                replace hR := hR.chain (below_drewN (Below.refl _ _) nq)
                go_wp2_with fail
                refine (p_len hR).mono ?_
                rintro x w9 ⟨rfl, hR9⟩
                have HR9 := Lib.hid hR9
                clear hR hR9
                go_wp2_with fail
                go_roundw
                case measure => have := HLT.out; simp [intOf]; omega
                case rel => exact ⟨k + 1, [], HLT.out, by go_num, Nat.zero_le _, HG, HR9⟩
              | cons dd ds =>
                obtain ⟨x0, x1, x2, x3, x4, x5, x6, x7, x8, x9⟩ := dd
                go_wp2_with fail
                refine (p_next _ hR).mono ?_
                rintro e w2 ⟨rfl, hR2⟩
                have hR := hR2.chain (Below.chainAlloc (Below.refl _ _) (.cells #[.int .i64 x0, .int .i64 x1, .int .u32 x2, .int .i64 x3, .int .i64 x4, .int .i64 x5, .int .i64 x6, .int .i64 x7, Str x8, Str x9] 24))
                have kx := Blk.new w2 #[.int .i64 x0, .int .i64 x1, .int .u32 x2, .int .i64 x3, .int .i64 x4, .int .i64 x5, .int .i64 x6, .int .i64 x7, Str x8, Str x9] 24
                obtain ⟨W, hW⟩ : ∃ W, w2.alloc (.cells #[.int .i64 x0, .int .i64 x1, .int .u32 x2, .int .i64 x3, .int .i64 x4, .int .i64 x5, .int .i64 x6, .int .i64 x7, Str x8, Str x9] 24) = W := ⟨_, rfl⟩
                obtain ⟨bx, hbx⟩ : ∃ bx, w2.heap.size = bx := ⟨_, rfl⟩
                rw [hW] at hR kx
                rw [hbx] at kx
                have HW := Lib.hid hW
                have HBX := Lib.hid hbx
                clear hR2 hW hbx
                clear e0 e1 e2 e3 e4 e5 e6 e7 e8 e9 e10
                have HRW := Lib.hid hR
                clear hR
                go_upto_region 23 with fail
                rw [HW.out, HBX.out]
                clear HW HBX
                have hsg := HRW.out.seg
                obtain ⟨gx, ox, cx', ee, _, hgx, hcx, _⟩ := hsg.shape (by simp)
                cases ee
                obtain ⟨f0, f1, f2, f3, f4, f5, f6, f7, f8, f9⟩ := hsg.dg (m := 0) (by simp)
                simp only [List.getElem_cons_zero, Nat.zero_mul, Nat.add_zero] at f0 f1 f2 f3 f4 f5 f6 f7 f8 f9
                have n0 : W.cell? ⟨bx, 0, none⟩ = some (.int .i64 x0) := kx.facts.1 0
                have n1 : W.cell? ⟨bx, 1, none⟩ = some (.int .i64 x1) := kx.facts.1 1
                have n2 : W.cell? ⟨bx, 2, none⟩ = some (.int .u32 x2) := kx.facts.1 2
                have n3 : W.cell? ⟨bx, 3, none⟩ = some (.int .i64 x3) := kx.facts.1 3
                have n4 : W.cell? ⟨bx, 4, none⟩ = some (.int .i64 x4) := kx.facts.1 4
                have n5 : W.cell? ⟨bx, 5, none⟩ = some (.int .i64 x5) := kx.facts.1 5
                have n6 : W.cell? ⟨bx, 6, none⟩ = some (.int .i64 x6) := kx.facts.1 6
                have n7 : W.cell? ⟨bx, 7, none⟩ = some (.int .i64 x7) := kx.facts.1 7
                have n8 : W.cell? ⟨bx, 8, none⟩ = some (Str x8) := kx.facts.1 8
                have n9 : W.cell? ⟨bx, 9, none⟩ = some (Str x9) := kx.facts.1 9
                have hg1 := fun x y w => run_eqGuard_agg (P := Try.prog) w .neq 24 x y #[.int .i64 x0, .int .i64 x1, .int .u32 x2, .int .i64 x3, .int .i64 x4, .int .i64 x5, .int .i64 x6, .int .i64 x7, Str x8, Str x9] #[.int .i64 x0, .int .i64 x1, .int .u32 x2, .int .i64 x3, .int .i64 x4, .int .i64 x5, .int .i64 x6, .int .i64 x7, Str x8, Str x9] guardDg
                have he1 : ∀ w, (binOp .neq 24 (.agg #[.int .i64 x0, .int .i64 x1, .int .u32 x2, .int .i64 x3, .int .i64 x4, .int .i64 x5, .int .i64 x6, .int .i64 x7, Str x8, Str x9]) (.agg #[.int .i64 x0, .int .i64 x1, .int .u32 x2, .int .i64 x3, .int .i64 x4, .int .i64 x5, .int .i64 x6, .int .i64 x7, Str x8, Str x9])).run Try.prog w = .ok (.bool false) w := fun w => by
                  have h := run_neq_dg ⟨x0, x1, x2, x3, x4, x5, x6, x7, x8, x9⟩ ⟨x0, x1, x2, x3, x4, x5, x6, x7, x8, x9⟩ w
                  simpa using h
                have hl0 : (0 : Int) < ((ds.length + 1 : Nat) : Int) := by omega
                simp only [List.length_cons] at HRW hdk hcx
                clear hsg kx hds HR hR
                go_quiet (fail)
                have hR := HRW.out.chain (below_drewN (Below.refl _ _) nq)
                clear f0 f1 f2 f3 f4 f5 f6 f7 f8 f9 n0 n1 n2 n3 n4 n5 n6 n7 n8 n9 hg1 he1
                generalize W.drewN nq = W3 at *
                have hc0 : ¬ cx = 0 := by omega
                by_cases hc1 : cx = 1
                · have hR := hR.tail ox (.inr ⟨hc1, rfl⟩)
                  have hHG := Lib.hid HG.out.tail
                  go_wp2_with fail
                  rw [show cx - 1 = 0 by omega] at hR
                  refine (p_len hR).mono ?_
                  rintro x w9 ⟨rfl, hR9⟩
                  have HR9 := Lib.hid hR9
                  clear hR hR9
                  go_wp2_with fail
                  go_roundw
                  case measure => have := HLT.out; simp [intOf]; omega
                  case rel => exact ⟨k + 1, ds, HLT.out, by go_num, by omega, hHG, HR9⟩
                · have hR := hR.tail (ox + 10) (.inl rfl)
                  have hHG := Lib.hid HG.out.tail
                  go_wp2_with fail
                  refine (p_len hR).mono ?_
                  rintro x w9 ⟨rfl, hR9⟩
                  have HR9 := Lib.hid hR9
                  clear hR hR9
                  go_wp2_with fail
                  go_roundw
                  case measure => have := HLT.out; simp [intOf]; omega
                  case rel => exact ⟨k + 1, ds, HLT.out, by go_num, by omega, hHG, HR9⟩
            · have hk1b : (kd == 1) = false := beq_eq_false_iff_ne.2 hk1
              by_cases hk2 : kd = 2
              · subst hk2
                have HRC := Lib.hid (fun w' (h' : Below wr.heap.size wr w') => r_clean (xv := .slice ax ds.length cx) d1 d2 hds HGB.out HG.out.2 (hR.chain h'))
                have HPC : Hid (∀ xv w', R25 w bc xv (keptD (cleanB d1 d2) ds) ds w' → Calls Try.prog 30 #[.pointer (some ⟨bc, 0, none⟩), .int .i64 d1, .int .u32 d2] w' fun e w2 => e = .returned (.int .i64 ((ds.length : Int) - ((keptD (cleanB d1 d2) ds).length : Int))) ∧ R25 w bc xv (keptD (cleanB d1 d2) ds) (keptD (cleanB d1 d2) ds) w2) :=
                  Lib.hid fun xv w' h => p_clean d1 d2 h
                have HGK := Lib.hid (HG.out.kept (cleanB d1 d2))
                have hkl := kept_le (cleanB d1 d2) ds
                have HMK : Hid (∀ w', Below w.heap.size w w' → (w'.cell? ⟨g, off + k * 11 + 2, none⟩ = some (.int .i64 d1) ∧ w'.cell? ⟨g, off + k * 11 + 3, none⟩ = some (.int .u32 d2)) ∧ Below w.heap.size w w') := Lib.hid fun w' h =>
                  ⟨⟨(h.cell (p := ⟨g, _, none⟩) hg).trans (HCELL.out 2 (by decide)), (h.cell (p := ⟨g, _, none⟩) hg).trans (HCELL.out 3 (by decide))⟩, h⟩
                have HBW := Lib.hid hR.below
                generalize (ds.length : Int) - ((keptD (cleanB d1 d2) ds).length : Int) = z at *
                generalize keptD (cleanB d1 d2) ds = ds' at *
                clear HR hR
                go_upto_region 28 with fail
                clear e0 e1 e2 e3 e4 e5 e6 e7 e8 e9 e10
                go_region_held3 (fun w' => (w'.cell? ⟨g, off + k * 11 + 2, none⟩ = some (.int .i64 d1) ∧ w'.cell? ⟨g, off + k * 11 + 3, none⟩ = some (.int .u32 d2)) ∧ Below w.heap.size w w')
                  (first
                    | exact HMK.out _ HBW.out.drew
                    | exact HMK.out _ HBW.out
                    | exact HMK.out _ hR2.below)
                  ((go_at_call 29; refine (HRC.out _ (by first | exact (Below.refl _ _).drew | exact Below.refl _ _)).mono ?_; rintro e w2 ⟨xv', rfl, hR2⟩))
                have HR2 := Lib.hid hR2
                have HBW2 := Lib.hid hR2.below
                clear hR2
                obtain ⟨⟨c2, c3⟩, _⟩ := HMK.out _ HBW2.out
                go_upto_region 30 with fail
                go_region_held3 (fun w' => (w'.cell? ⟨g, off + k * 11 + 2, none⟩ = some (.int .i64 d1) ∧ w'.cell? ⟨g, off + k * 11 + 3, none⟩ = some (.int .u32 d2)) ∧ Below w.heap.size w w')
                  (first
                    | exact HMK.out _ HBW2.out.drew
                    | exact HMK.out _ HBW2.out
                    | exact HMK.out _ hR.below)
                  ((go_at_call 30; refine (HPC.out _ _ (by first | exact HR2.out.chain (Below.refl _ _).drew | exact HR2.out)).mono ?_; rintro e w3 ⟨rfl, hR⟩))
                obtain ⟨ax, cx, rfl⟩ := hR.seg.form
                go_wp2_with fail
                refine (p_len hR).mono ?_
                rintro x w9 ⟨rfl, hR9⟩
                have HR9 := Lib.hid hR9
                clear hR hR9
                go_wp2_with fail
                go_roundw
                case measure => have := HLT.out; simp [intOf]; omega
                case rel => exact ⟨k + 1, ds', HLT.out, by go_num, by omega, HGK, HR9⟩
              · have hk2b : (kd == 2) = false := beq_eq_false_iff_ne.2 hk2
                have HRD := Lib.hid (r_drop (xv := .slice ax ds.length cx) d1 hds hR)
                have HPD : Hid (∀ xv w', R25 w bc xv (keptD (dropB d1) ds) ds w' → Calls Try.prog 32 #[.pointer (some ⟨bc, 0, none⟩), .int .i64 d1] w' fun e w2 => e = .returned (.int .i64 ((ds.length : Int) - ((keptD (dropB d1) ds).length : Int))) ∧ R25 w bc xv (keptD (dropB d1) ds) (keptD (dropB d1) ds) w2) :=
                  Lib.hid fun xv w' h => p_drop d1 h
                have HGK := Lib.hid (HG.out.kept (dropB d1))
                have hkl := kept_le (dropB d1) ds
                generalize (ds.length : Int) - ((keptD (dropB d1) ds).length : Int) = z at *
                generalize keptD (dropB d1) ds = ds' at *
                clear HR hR
                go_wp2_with fail
                refine HRD.out.mono ?_
                rintro e w2 ⟨xv', rfl, hR2⟩
                clear HRD e0 e1 e2 e3 e4 e5 e6 e7 e8 e9 e10
                have e0 : w2.cell? ⟨g, off + k * 11, none⟩ = some (.int .i64 kd) := (hR2.below.cell (p := ⟨g, _, none⟩) hg).trans (HCELL.out 0 (by decide))
                have e1 : w2.cell? ⟨g, off + k * 11 + 1, none⟩ = some (.int .i64 d0) := (hR2.below.cell (p := ⟨g, _, none⟩) hg).trans (HCELL.out 1 (by decide))
                have e2 : w2.cell? ⟨g, off + k * 11 + 2, none⟩ = some (.int .i64 d1) := (hR2.below.cell (p := ⟨g, _, none⟩) hg).trans (HCELL.out 2 (by decide))
                have e3 : w2.cell? ⟨g, off + k * 11 + 3, none⟩ = some (.int .u32 d2) := (hR2.below.cell (p := ⟨g, _, none⟩) hg).trans (HCELL.out 3 (by decide))
                have e4 : w2.cell? ⟨g, off + k * 11 + 4, none⟩ = some (.int .i64 d3) := (hR2.below.cell (p := ⟨g, _, none⟩) hg).trans (HCELL.out 4 (by decide))
                have e5 : w2.cell? ⟨g, off + k * 11 + 5, none⟩ = some (.int .i64 d4) := (hR2.below.cell (p := ⟨g, _, none⟩) hg).trans (HCELL.out 5 (by decide))
                have e6 : w2.cell? ⟨g, off + k * 11 + 6, none⟩ = some (.int .i64 d5) := (hR2.below.cell (p := ⟨g, _, none⟩) hg).trans (HCELL.out 6 (by decide))
                have e7 : w2.cell? ⟨g, off + k * 11 + 7, none⟩ = some (.int .i64 d6) := (hR2.below.cell (p := ⟨g, _, none⟩) hg).trans (HCELL.out 7 (by decide))
                have e8 : w2.cell? ⟨g, off + k * 11 + 8, none⟩ = some (.int .i64 d7) := (hR2.below.cell (p := ⟨g, _, none⟩) hg).trans (HCELL.out 8 (by decide))
                have e9 : w2.cell? ⟨g, off + k * 11 + 9, none⟩ = some (Str d8) := (hR2.below.cell (p := ⟨g, _, none⟩) hg).trans (HCELL.out 9 (by decide))
                have e10 : w2.cell? ⟨g, off + k * 11 + 10, none⟩ = some (Str d9) := (hR2.below.cell (p := ⟨g, _, none⟩) hg).trans (HCELL.out 10 (by decide))
                go_wp2_with fail
                refine (HPD.out _ _ hR2).mono ?_
                rintro e w3 ⟨rfl, hR⟩
                clear hR2 e0 e1 e2 e3 e4 e5 e6 e7 e8 e9 e10
                obtain ⟨ax, cx, rfl⟩ := hR.seg.form
                go_wp2_with fail
                refine (p_len hR).mono ?_
                rintro x w9 ⟨rfl, hR9⟩
                have HR9 := Lib.hid hR9
                clear hR hR9
                go_wp2_with fail
                go_roundw
                case measure => have := HLT.out; simp [intOf]; omega
                case rel => exact ⟨k + 1, ds', HLT.out, by go_num, by omega, HGK, HR9⟩
    · obtain rfl : k = len := by omega
      have hR := HR.out
      have hlt' : ¬ (k : Int) < (k : Int) := by omega
      have HBF := Lib.hid hR.below
      clear hR HR
      go_wp2_with fail
      refine (awake25_ok _).mono ?_
      rintro e w9 ⟨rfl, hb9⟩
      have HBE := Lib.hid (Below.chain hb9 HBF.out)
      go_wp2_with fail
      go_ret
      exact ⟨rfl, HBE.out⟩
theorem cplay_walk (a : Option Addr) (len cap : Nat) (l : List CD) (w : World) (hz : IsRows 11 CD.cells w a len cap l) (hgood : ∀ r ∈ l, r.good) : Calls Try.prog 7 #[.slice a len cap] w (RetB (.bool true) w) := by
  by_cases h : 60 < len
  · exact cplay_many a len cap w h
  · exact cplay_few a len cap l w hz hgood (by omega)
namespace controlPlays
theorem own : ownKnob Try.prog.godebug = none := by kernel_rfl
theorem laidOut : laidOutB Try.prog = true := by kernel_rfl
set_option maxRecDepth 100000 in
theorem lifted (os : Os) (started : os.Started) (H : Type) (enc : TypeId × Value → H) :
    ReturnsInHanded {} Try.checked os 7 .any (Rows.controlPlaysSpec.pre6 enc Try.prog Try.f7 Rows.controlPlaysRow.domain false) (Rows.controlPlaysSpec.post enc Try.prog Try.f7 false true false false) := by
  refine law_lift (C := Try.checked) (tb := 4) own started (by kernel_rfl) Try.func7 laidOut rfl Try.underlying4 rfl (by kernel_rfl) (fun ds h => by match ds, h with | [d1], _ => rfl)
    (ChangeSpec.witness6 (enc := enc) (C := Try.checked) false ⟨#[], #[.slice none 0 0], []⟩ 8 (by kernel_rfl) (by kernel_rfl) (by kernel_rfl) (by kernel_rfl)) ?_
  intro W base args ds ps hval hA
  rw [Try.params7] at hA hval
  obtain ⟨v0, d0, rfl, rfl, h0⟩ := trodAll_one hA
  obtain ⟨al, nl, cl, rfl⟩ := okWide_slice Try.underlying43 (hval 0 43 v0 rfl rfl)
  obtain ⟨l, wl, gl⟩ := open_cd h0
  exact cplay_walk al nl cl l W wl gl
theorem proved : Rows.ControlPlaysSaid :=
  OpenClaim.holds_of_wide 7 Try.f7 rfl rfl rfl rfl rfl rfl rfl ⟨rfl, rfl, rfl, rfl, rfl⟩ rfl rfl rfl rfl rfl (by kernel_rfl) Try.func7 (by kernel_rfl)
    (of_decide_eq_true (by kernel_rfl)) (by unfold Func.isWrapper; first | (rw [if_pos (by decide +kernel)]; kernel_rfl) | (rw [if_neg (by decide +kernel)]; exact ⟨rfl, rfl⟩))
    (fun os started H enc _ => lifted os started H enc)
end controlPlays
#print axioms controlPlays.proved
end Go.Proofs.Ytphejbjbleeigaa
