/-
  Stats: whatever numbers come: the least, the greatest, the mean, and any part, or the error (chapter 51).
-/
import Derived.Test.YtdjjienklfbalaaSta5
import Derived.Test.YtdjjienklfbalaaLift3
namespace Go.Proofs.Ytdjjienklfbalaa
open Go.RowKit
set_option linter.unusedVariables false
set_option maxRecDepth 100000
set_option maxHeartbeats 1000000
open Go.ChangeShapes Go.WideShapes Go.ChangeAt
def Good2 (n : Nat) (zs : List Int) (sum : Int) : Prop := zs.length ≤ n ∧ zs.Pairwise (· ≤ ·) ∧ (∀ z ∈ zs, 0 ≤ z) ∧ 0 ≤ sum ∧ sum ≤ 1073741824 * n
theorem mean_e (b : Nat) (sum : Int) (w : World) (h : St w b [] sum) : Calls Try.prog 59 #[.pointer (some ⟨b, 0, none⟩)] w fun e w' => e = .returned (.int .i64 0) ∧ w' = w := by
  have HL := Lib.hid (len_st b [] sum w h)
  go_enter Try.func59, Try.ntmps59
  go_wp2_with fail
  refine HL.out.mono ?_
  rintro e w1 ⟨rfl, rfl⟩
  simp only [List.length_nil]
  go_wp2_with fail
  go_ret
  exact ⟨rfl, rfl⟩
theorem play_walk (a : Option Addr) (len cap : Nat) (l : List Int) (p : Int) (w : World) (hz : IsInts .i64 w a len cap l) :
    Calls Try.prog 12 #[.slice a len cap, .int .i64 p] w fun e w' => e = .returned (.bool true) ∧ Below w.heap.size w w' := by
  obtain ⟨h1, h2, h3, h4, h5⟩ := hz
  have hls : len ≤ 9223372036854775807 := by unfold maxLen at h3; omega
  by_cases hfar : 60 < len
  · have hd : decide (60 < (len : Int)) = true := by simp; omega
    clear h4 h5
    go_enter Try.func12, Try.ntmps12
    go_wp2_with fail
    refine (awake51 _).mono ?_
    rintro e w1 ⟨rfl, hb⟩
    go_wp2_with fail
    go_ret
    exact ⟨rfl, hb⟩
  · have hd : decide (60 < (len : Int)) = false := by simp; omega
    have hl60 : len ≤ 60 := by omega
    have HL := Lib.hid h1
    have HC := Lib.hid h5
    clear h1 h2 h3 h4 h5 hfar
    go_enter Try.func12, Try.ntmps12
    go_wp2_with fail
    refine (new_st _).mono ?_
    rintro e w1 ⟨rfl, s1, hB1⟩
    obtain ⟨b, hb0⟩ : ∃ b, w.heap.size = b := ⟨_, rfl⟩
    rw [hb0] at s1 hB1 ⊢
    have HB0 := Lib.hid hb0
    clear hb0
    go_wp2_with fail
    obtain ⟨vs1, k1, t1⟩ := s1
    go_loopg [6, 7, 8] len (fun gk v sv iv wr => ∃ (k : Nat) (zs : List Int) (sum : Int) (vs : Value), k ≤ len ∧ len ≤ k + gk ∧ iv = .int .i64 k ∧ sv = .int .i64 sum ∧ Good2 k zs sum ∧ Blk wr b #[vs, .int .i64 sum] 206 ∧ Seg wr (b + 1) 3 1 vs zs.length (ints zs) ∧ Seg wr (b + 1) 3 1 v zs.length (ints zs) ∧ (∀ q, v.ownBlock = some q → vs.ownBlock ≠ some q) ∧ Below b w wr)
    case atStart => exact ⟨0, [], 0, vs1, by omega, by omega, rfl, rfl, ⟨by simp, by simp, by simp, by decide, by decide⟩, k1, t1, Seg.nil _ _ _ _, by simp [Value.ownBlock], hB1⟩
    case round =>
      obtain ⟨k, zs, sum, vs, hk, hgk, rfl, rfl, hg, kb, ts, tv, hdj, hB⟩ := hrel
      have HG := Lib.hid hg
      clear hg
      obtain ⟨av, cv, rfl⟩ := tv.form
      by_cases hlt : k < len
      · obtain ⟨g, off, rfl, hgl, hc⟩ := HC.out.resolve_left (by omega)
        have hkd : k < l.length := by rw [HL.out]; exact hlt
        have hc1 : wr.cell? ⟨g, off + k, none⟩ = some (.int .i64 l[k]) := (hB.cell (p := ⟨g, off + k, none⟩) (by show g < b; rw [← HB0.out]; exact hgl)).trans (hc k hkd)
        generalize l[k] = x at *
        obtain ⟨g1, g2, g3, g4, g5⟩ := HG.out
        have hlti : (k : Int) < (len : Int) := by omega
        by_cases hok : 0 ≤ x ∧ x ≤ 1073741824
        · have d0 : decide (0 ≤ x) = true := by simpa using hok.1
          have d1 : decide (x ≤ 1073741824) = true := by simpa using hok.2
          have HPut := Lib.hid (put_st (b + 1) (.slice av zs.length cv) zs x wr tv g2 (by omega))
          have HA := Lib.hid (fun w2 h1 h2 => add_fr b vs zs sum x w2 h1 h2 g2 (by omega) g4 (by omega) hok.1 hok.2)
          have HG2 : Hid (Good2 (k + 1) (insZ zs x) (sum + x)) := Lib.hid ⟨by rw [insZ_length]; omega, insZ_sorted zs x g2, fun z hz => by
            rcases ins_mem.1 hz with rfl | hz
            · exact hok.1
            · exact g3 z hz, by omega, by push_cast; omega⟩
          have HIL := Lib.hid (insZ_length zs x)
          have hwr : IntKind.i64.wrap (sum + x) = sum + x := by rw [IntWalk.i64_in _ (by omega)]
          clear hc g1 g2 g3 g4 g5 HG hkd hok
          go_wp2_with fail
          refine HPut.out.mono ?_
          rintro e w2 ⟨v2, rfl, s2, hb⟩
          have kb2 := kb.below hb kb.lt
          have ts2 := ts.chain hb
          have hc2 := (hb.cell (p := ⟨g, off + k, none⟩) (by show g < _; have := kb.lt; have := HB0.out; omega)).trans hc1
          have hB2 := hB.trans (hb.mono (Nat.le_of_lt kb.lt))
          have hvs : ∀ q, vs.ownBlock = some q → q < wr.heap.size := fun q hq => (ts.blk q hq).2
          obtain ⟨a2, c2', rfl⟩ := s2.form
          clear HPut hc1 tv hdj
          go_wp2_with fail
          refine (HA.out _ kb2 ts2).mono ?_
          rintro e w3 ⟨v3, rfl, kb3, ts3, hb3, ho3, hq3⟩
          have hwb : b < wr.heap.size := kb.lt
          have s3 := s2.only ho3 (fun q hq hm => by
            have h1 := (s2.blk q hq).1
            rcases List.mem_cons.1 hm with rfl | hm
            · omega
            · have := hvs q (by simpa using hm)
              omega)
          have hB3 := hB2.trans hb3
          have HLn := Lib.hid (len_st b (insZ zs x) (sum + x) w3 ⟨v3, kb3, ts3⟩)
          have HFin : Hid (Seg w3 (b + 1) 3 1 (.slice a2 (zs.length + 1) c2') (insZ zs x).length (ints (insZ zs x)) ∧ ∀ q, (Value.slice a2 (zs.length + 1) c2').ownBlock = some q → v3.ownBlock ≠ some q) := Lib.hid ⟨by rw [HIL.out]; exact s3.le (by omega), fun q hq e => by
            have h1 := s2.blk q hq
            rcases hq3 q e with h | h
            · have := hvs q h; omega
            · omega⟩
          rw [HIL.out] at HLn
          have hbe : (((zs.length : Nat) : Int) + 1 != ((zs.length : Nat) : Int) + 1) = false := by simp
          have hcast : ((zs.length + 1 : Nat) : Int) = (zs.length : Int) + 1 := by push_cast; rfl
          clear kb2 ts2 hb hb3 ho3 hq3 s2 s3 hvs hB2 HA
          go_wp2_with fail
          refine HLn.out.mono ?_
          rintro e w4 ⟨rfl, rfl⟩
          go_wp2_with fail
          go_roundg (len - (k + 1))
          case measure => omega
          case rel => exact ⟨k + 1, insZ zs x, sum + x, v3, by omega, by omega, by go_num, rfl, HG2.out, kb3, ts3, HFin.out.1, HFin.out.2, hB3⟩
        · have HBd := Lib.hid (add_bad b x (by omega))
          have HLn := Lib.hid (len_st b zs sum wr ⟨vs, kb, ts⟩)
          have HG2 : Hid (Good2 (k + 1) zs sum) := Lib.hid ⟨by omega, g2, g3, g4, by push_cast; omega⟩
          have hne : (0 ≤ x → ¬ x ≤ 1073741824) := fun h1 h2 => hok ⟨h1, h2⟩
          clear hc g1 g2 g3 g4 g5 HG hkd hok
          by_cases hx0 : 0 ≤ x
          · have d0 : decide (0 ≤ x) = true := by simpa using hx0
            have d1 : decide (x ≤ 1073741824) = false := by simpa using hne hx0
            clear hne
            go_wp2_with fail
            refine (HBd.out _).mono ?_
            rintro e w3 ⟨rfl, rfl⟩
            go_wp2_with fail
            refine HLn.out.mono ?_
            rintro e w4 ⟨rfl, rfl⟩
            go_wp2_with fail
            go_roundg (len - (k + 1))
            case measure => omega
            case rel => exact ⟨k + 1, zs, sum, vs, by omega, by omega, by go_num, rfl, HG2.out, kb, ts, tv, hdj, hB⟩
          · have d0 : decide (0 ≤ x) = false := by simpa using hx0
            clear hne
            go_wp2_with fail
            refine (HBd.out _).mono ?_
            rintro e w3 ⟨rfl, rfl⟩
            go_wp2_with fail
            refine HLn.out.mono ?_
            rintro e w4 ⟨rfl, rfl⟩
            go_wp2_with fail
            go_roundg (len - (k + 1))
            case measure => omega
            case rel => exact ⟨k + 1, zs, sum, vs, by omega, by omega, by go_num, rfl, HG2.out, kb, ts, tv, hdj, hB⟩
      · have hnl : ¬ (k : Int) < (len : Int) := by omega
        obtain ⟨g1, g2, g3, g4, g5⟩ := HG.out
        have HS : Hid (St wr b zs sum) := Lib.hid ⟨vs, kb, ts⟩
        by_cases hp : p < 1 ∨ 100 < p
        · have HP := Lib.hid (pt_bad b p hp wr)
          have hwb := kb.lt
          by_cases hp1 : p < 1
          · have d0 : decide (p < 1) = true := by simpa using hp1
            clear g1 g2 g3 g4 g5 HG hp
            go_wp2_with fail
            refine HP.out.mono ?_
            rintro e w3 ⟨rfl, hb⟩
            go_wp2_with fail
            refine (awake51 _).mono ?_
            rintro e w4 ⟨rfl, hb4⟩
            go_wp2_with fail
            go_ret
            exact ⟨rfl, by rw [HB0.out]; exact (hB.trans (hb.mono (Nat.le_of_lt hwb))).trans (hb4.mono (by have := hb.size; omega))⟩
          · have d0 : decide (p < 1) = false := by simpa using hp1
            have d1 : decide (100 < p) = true := by simp; omega
            clear g1 g2 g3 g4 g5 HG hp hp1
            go_wp2_with fail
            refine HP.out.mono ?_
            rintro e w3 ⟨rfl, hb⟩
            go_wp2_with fail
            refine (awake51 _).mono ?_
            rintro e w4 ⟨rfl, hb4⟩
            go_wp2_with fail
            go_ret
            exact ⟨rfl, by rw [HB0.out]; exact (hB.trans (hb.mono (Nat.le_of_lt hwb))).trans (hb4.mono (by have := hb.size; omega))⟩
        · have d0 : decide (p < 1) = false := by simp; omega
          have d1 : decide (100 < p) = false := by simp; omega
          have hwb := kb.lt
          by_cases hz : zs = []
          · subst hz
            have HP := Lib.hid (pt_none b sum p (by omega) (by omega) wr HS.out)
            clear g1 g2 g3 g4 g5 HG hp
            go_wp2_with fail
            refine HP.out.mono ?_
            rintro e w3 ⟨rfl, hb⟩
            have s3 := HS.out.below hb
            have hB3 := hB.trans (hb.mono (Nat.le_of_lt hwb))
            simp only
            go_wp2_with fail
            refine (least_any b [] sum (by simp) _ s3).mono ?_
            rintro e w4 ⟨rfl, hb4⟩
            have s4 := s3.below hb4
            have hB4 := hB3.trans (hb4.mono (Nat.le_of_lt s3.lt))
            rw [show atZ [] 0 = 0 from rfl]
            go_wp2_with fail
            refine (most_any b [] sum (by simp) _ s4).mono ?_
            rintro e w5 ⟨rfl, hb5⟩
            have s5 := s4.below hb5
            have hB5 := hB4.trans (hb5.mono (Nat.le_of_lt s4.lt))
            rw [show atZ [] (([] : List Int).length - 1) = 0 from rfl]
            go_wp2_with fail
            refine (mean_e b sum _ s5).mono ?_
            rintro e w6 ⟨rfl, rfl⟩
            go_wp2_with fail
            refine (awake51 _).mono ?_
            rintro e w7 ⟨rfl, hb7⟩
            have hB7 := hB5.trans (hb7.mono (Nat.le_of_lt s5.lt))
            go_wp2_with fail
            go_ret
            exact ⟨rfl, by rw [HB0.out]; exact hB7⟩
          · have hn := List.length_pos_iff.2 hz
            have hl6 : zs.length ≤ 60 := by omega
            obtain ⟨q1, q2⟩ := partAt_lt (p := p) (n := zs.length) (by omega) (by omega) hn
            obtain ⟨gx, ox, cx, hxf, _, hgx, _⟩ := tv.shape hn
            injection hxf with ha hb' hc'
            subst ha
            have HP := Lib.hid (fun w => part_st b zs sum p (by omega) (by omega) (by omega) hn w)
            have HLe := Lib.hid (fun w => least_st b zs sum (by omega) hn w)
            have HMo := Lib.hid (fun w => most_st b zs sum (by omega) hn w)
            have HMe := Lib.hid (fun w => mean_st b zs sum (by omega) hn g4 (by omega) w)
            have hcell : ∀ j, j < zs.length → wr.cell? ⟨gx, ox + j, none⟩ = some (.int .i64 (atZ zs j)) := fun j hj => by
              rw [tv.at j (by omega)]
              unfold atZ
              simp [hj]
            have e1 := hcell _ q1
            have e2 := hcell 0 hn
            have e3 := hcell (zs.length - 1) (by omega)
            have hm0 : 1 ≤ p * (zs.length : Int) := by have := Int.mul_le_mul (show (1 : Int) ≤ p by omega) (show (1 : Int) ≤ zs.length by omega) (by omega) (by omega); omega
            have hm1 : p * (zs.length : Int) ≤ 6000 := by have := Int.mul_le_mul (show p ≤ 100 by omega) (show (zs.length : Int) ≤ 60 by omega) (by omega) (by omega); omega
            have hsm : 0 ≤ sum / (zs.length : Int) ∧ sum / (zs.length : Int) ≤ sum := ⟨Int.ediv_nonneg g4 (by omega), Int.ediv_le_self _ g4⟩
            have hsb : sum ≤ 1099511627776 := by omega
            generalize atZ zs (partAt p zs.length) = y1 at *
            generalize atZ zs 0 = y2 at *
            generalize atZ zs (zs.length - 1) = y3 at *
            generalize partAt p zs.length = K at *
            clear hcell g1 g2 g3 HG hp ts kb tv hdj
            generalize hN : zs.length = n at *
            have hqm : IntKind.i64.wrap (p * (n : Int)) = p * (n : Int) := by rw [IntWalk.i64_in _ (by omega)]
            obtain ⟨m, hmm⟩ : ∃ m, p * (n : Int) = m := ⟨_, rfl⟩
            rw [hmm] at hqm hm0 hm1 q2
            have hq2 : IntKind.i64.wrap (m + 99) = m + 99 := by rw [IntWalk.i64_in _ (by omega)]
            have hq3 : (m + 99).tdiv 100 = (K : Int) + 1 := by rw [Int.tdiv_eq_ediv_of_nonneg (by omega)]; omega
            have hq3' : (m + 99) / 100 = (K : Int) + 1 := by omega
            have hq4 : IntKind.i64.wrap ((K : Int) + 1) = (K : Int) + 1 := by rw [IntWalk.i64_in _ (by omega)]
            have hq5 : IntKind.i64.wrap (K : Int) = (K : Int) := by rw [IntWalk.i64_in _ (by omega)]
            have hq6 : (K : Int) < (n : Int) := by omega
            obtain ⟨N1, hN1⟩ : ∃ N1, n - 1 = N1 := ⟨_, rfl⟩
            rw [hN1] at e3
            have hq7 : (n : Int) - 1 = (N1 : Int) := by omega
            have hq8 : IntKind.i64.wrap (N1 : Int) = (N1 : Int) := by rw [IntWalk.i64_in _ (by omega)]
            have hq9 : (N1 : Int) < (n : Int) := by omega
            clear hN1
            have hq10 : sum.tdiv (n : Int) = sum / (n : Int) := Int.tdiv_eq_ediv_of_nonneg g4
            have hq11 : IntKind.i64.wrap (sum / (n : Int)) = sum / (n : Int) := by rw [IntWalk.i64_in _ (by omega)]
            have hq12 : ((n : Int) == 0) = false := by rw [beq_eq_false_iff_ne]; omega
            have hq13 : (0 : Int) < (n : Int) := by omega
            have hq14 : ¬ (n : Int) = 0 := by omega
            have hq16 : ¬ n = 0 := by omega
            have hq17 : (n = 0) = False := by simp; omega
            have hq15 : wrap64 (sum / (n : Int)) = sum / (n : Int) := IntWalk.wrap64_in _ (by omega)
            have HQ2 := Lib.hid q2
            clear q2
            go_wp2_with fail
            refine (HP.out _ HS.out).mono ?_
            rintro e w3 ⟨rfl, hb⟩
            have s3 := HS.out.below hb
            have hB3 := hB.trans (hb.mono (Nat.le_of_lt hwb))
            have f1 := (hb.cell (p := ⟨gx, ox + K, none⟩) hgx).trans e1
            have f2 := (hb.cell (p := ⟨gx, ox + 0, none⟩) hgx).trans e2
            have f3 := (hb.cell (p := ⟨gx, ox + N1, none⟩) hgx).trans e3
            have hgx3 : gx < w3.heap.size := Nat.lt_of_lt_of_le hgx hb.size
            clear e1 e2 e3 hb HS HP
            go_upto_region 22 with fail
            have HMK := Lib.hid (fun (w' : World) (h : Below w3.heap.size w3 w') => (show w'.cell? ⟨gx, ox + K, none⟩ = some (.int .i64 y1) ∧ w'.cell? ⟨gx, ox, none⟩ = some (.int .i64 y2) ∧ w'.cell? ⟨gx, ox + N1, none⟩ = some (.int .i64 y3) ∧ Below w3.heap.size w3 w' from ⟨(h.cell (p := ⟨gx, ox + K, none⟩) hgx3).trans f1, (h.cell (p := ⟨gx, ox, none⟩) hgx3).trans f2, (h.cell (p := ⟨gx, ox + N1, none⟩) hgx3).trans f3, h⟩))
            have HSt := Lib.hid (fun (w' : World) (h : Below w3.heap.size w3 w') => s3.below h)
            have HBB := Lib.hid (And.intro hB3 s3.lt)
            clear f1 f2 f3 s3 hB3
            go_region_held3 (fun w' => w'.cell? ⟨gx, ox + K, none⟩ = some (.int .i64 y1) ∧ w'.cell? ⟨gx, ox, none⟩ = some (.int .i64 y2) ∧ w'.cell? ⟨gx, ox + N1, none⟩ = some (.int .i64 y3) ∧ Below w3.heap.size w3 w')
              (first
                | exact HMK.out _ (Below.refl _ _).drew
                | exact HMK.out _ (Below.refl _ _)
                | (go_split_ands; exact HMK.out _ (Below.chain hb (by assumption))))
              (first
                | (go_at_call 57; refine (HLe.out _ (HSt.out _ (by first | (go_split_ands; assumption) | exact (Below.refl _ _).drew | exact Below.refl _ _))).mono ?_; rintro e w4 ⟨rfl, hb⟩)
                | (go_at_call 58; refine (HMo.out _ (HSt.out _ (by first | (go_split_ands; assumption) | exact (Below.refl _ _).drew | exact Below.refl _ _))).mono ?_; rintro e w4 ⟨rfl, hb⟩)
                | (go_at_call 59; refine (HMe.out _ (HSt.out _ (by first | (go_split_ands; assumption) | exact (Below.refl _ _).drew | exact Below.refl _ _))).mono ?_; rintro e w4 ⟨rfl, hb⟩)
                | (go_at_call 51; refine (awake51 _).mono ?_; rintro e w4 ⟨rfl, hb⟩))
            rename_i hHeld
            have hBe := HBB.out.1.trans (hHeld.2.2.2.mono (Nat.le_of_lt HBB.out.2))
            go_wp2_with fail
            go_ret
            exact ⟨rfl, by rw [HB0.out]; exact hBe⟩
namespace statsPlay
theorem own : ownKnob Try.prog.godebug = none := by kernel_rfl
theorem laidOut : laidOutB Try.prog = true := by kernel_rfl
set_option maxRecDepth 100000 in
theorem lifted (os : Os) (started : os.Started) (H : Type) (enc : TypeId × Value → H) :
    ReturnsInHanded {} Try.checked os 12 .any (Rows.statsPlaySpec.pre6 enc Try.prog Try.f12 Rows.statsPlayRow.domain false) (Rows.statsPlaySpec.post enc Try.prog Try.f12 false true false false) := by
  refine law_lift (C := Try.checked) (tb := 4) own started (by kernel_rfl) Try.func12 laidOut rfl Try.underlying4 rfl (by kernel_rfl) (fun ds h => by match ds, h with | [d1, d2], _ => rfl)
    (ChangeSpec.witness6 (enc := enc) (C := Try.checked) false ⟨#[], #[.slice none 0 0, .int .i64 0], []⟩ 8 (by kernel_rfl) (by kernel_rfl) (by kernel_rfl) (by kernel_rfl)) ?_
  intro W base args ds ps hval hA
  rw [Try.params12] at hA hval
  obtain ⟨v0, v1, d0, d1, p0, p1, rfl, rfl, rfl, h0, h1⟩ := trodAll_two hA
  obtain ⟨al, nl, cl, rfl⟩ := okWide_slice Try.underlying29 (hval 0 29 v0 rfl rfl)
  obtain ⟨l, wl⟩ := open_intsl (k := .i64) Try.underlying29 Try.underlying3 (by kernel_rfl) h0
  obtain ⟨i, rfl, rfl, rfl, wi⟩ := open_int Try.underlying3 (hval 1 3 v1 rfl rfl) h1
  exact play_walk al nl cl l i W wl
theorem proved : Rows.StatsPlaySaid :=
  OpenClaim.holds_of_wide 12 Try.f12 rfl rfl rfl rfl rfl rfl rfl ⟨rfl, rfl, rfl, rfl, rfl⟩ rfl rfl rfl rfl rfl (by kernel_rfl) Try.func12 (by kernel_rfl)
    (of_decide_eq_true (by kernel_rfl)) (by unfold Func.isWrapper; first | (rw [if_pos (by decide +kernel)]; kernel_rfl) | (rw [if_neg (by decide +kernel)]; exact ⟨rfl, rfl⟩))
    (fun os started H enc _ => lifted os started H enc)
end statsPlay
#print axioms statsPlay.proved
end Go.Proofs.Ytdjjienklfbalaa
