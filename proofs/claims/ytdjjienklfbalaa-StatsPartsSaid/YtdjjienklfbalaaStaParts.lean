/-
  Stats: parts rise, from the least one up to the greatest one (chapter 51).
-/
import Derived.Test.YtdjjienklfbalaaSta4
import Derived.Test.YtdjjienklfbalaaLift3
namespace Go.Proofs.Ytdjjienklfbalaa
open Go.RowKit
set_option linter.unusedVariables false
set_option maxRecDepth 100000
set_option maxHeartbeats 1000000
open Go.ChangeShapes Go.WideShapes Go.ChangeAt
/-- What is known of the numbers that came in so far. -/
def Good (n : Nat) (zs : List Int) (sum : Int) : Prop := zs.length = n ∧ zs.Pairwise (· ≤ ·) ∧ (∀ z ∈ zs, 0 ≤ z) ∧ 0 ≤ sum ∧ sum ≤ 65536 * n
theorem parts_walk (a : Option Addr) (len cap : Nat) (l : List Int) (w : World) (hz : IsInts .u16 w a len cap l) :
    Calls Try.prog 13 #[.slice a len cap] w fun e w' => e = .returned (.bool true) ∧ Below w.heap.size w w' := by
  obtain ⟨h1, h2, h3, h4, h5⟩ := hz
  have hls : len ≤ 9223372036854775807 := by unfold maxLen at h3; omega
  by_cases hfar : 60 < len
  · have hd : decide (60 < (len : Int)) = true := by simp; omega
    clear h4 h5
    go_enter Try.func13, Try.ntmps13
    go_wp2_with fail
    refine (awake51 _).mono ?_
    rintro e w1 ⟨rfl, hb⟩
    go_wp2_with fail
    go_ret
    exact ⟨rfl, hb⟩
  · have hd : decide (60 < (len : Int)) = false := by simp; omega
    have hl60 : len ≤ 60 := by omega
    have HL := Lib.hid h1
    have HW := Lib.hid h4
    have HC := Lib.hid h5
    clear h1 h2 h3 h4 h5 hfar
    go_enter Try.func13, Try.ntmps13
    go_wp2_with fail
    refine (new_st _).mono ?_
    rintro e w1 ⟨rfl, s1, hB1⟩
    obtain ⟨b, hb0⟩ : ∃ b, w.heap.size = b := ⟨_, rfl⟩
    rw [hb0] at s1 hB1 ⊢
    have HB0 := Lib.hid hb0
    clear hb0
    go_wp2_with fail
    go_loopg [4] len (fun gk v wr => ∃ (k : Nat) (zs : List Int) (sum : Int), k ≤ len ∧ len ≤ k + gk ∧ v = .int .i64 k ∧ Good k zs sum ∧ St wr b zs sum ∧ Below b w wr)
    case atStart => exact ⟨0, [], 0, by omega, by omega, rfl, ⟨rfl, by simp, by simp, by decide, by decide⟩, s1, hB1⟩
    case round =>
      obtain ⟨k, zs, sum, hk, hgk, rfl, hg, hs, hB⟩ := hrel
      have HG := Lib.hid hg
      clear hg
      by_cases hlt : k < len
      · obtain ⟨g, off, rfl, hgl, hc⟩ := HC.out.resolve_left (by omega)
        have hkd : k < l.length := by rw [HL.out]; exact hlt
        have hc1 : wr.cell? ⟨g, off + k, none⟩ = some (.int .u16 l[k]) := (hB.cell (p := ⟨g, off + k, none⟩) (by show g < b; rw [← HB0.out]; exact hgl)).trans (hc k hkd)
        have hwf := HW.out _ (List.getElem_mem hkd)
        generalize l[k] = x at *
        have hx : 0 ≤ x ∧ x ≤ 65535 := by simpa [Lit.wf, IntKind.min, IntKind.max, IntKind.signed, IntKind.bits] using hwf
        obtain ⟨g1, g2, g3, g4, g5⟩ := HG.out
        have HA := Lib.hid (add_st b zs sum x wr hs g2 (by omega) g4 (by omega) hx.1 (by omega))
        have HG2 : Hid (Good (k + 1) (insZ zs x) (sum + x)) := Lib.hid ⟨by rw [insZ_length, g1], insZ_sorted zs x g2, fun z hz => by
          rcases ins_mem.1 hz with rfl | hz
          · exact hx.1
          · exact g3 z hz, by omega, by push_cast; omega⟩
        have hwx : IntKind.i64.wrap x = x := by rw [IntWalk.i64_in _ (by omega)]
        have hlti : (k : Int) < (len : Int) := by omega
        clear hc hwf g1 g2 g3 g4 g5 hs HG hkd
        generalize insZ zs x = zs2 at *
        generalize sum + x = sum2 at *
        go_wp2_with fail
        refine HA.out.mono ?_
        rintro e w2 ⟨rfl, s2, hb⟩
        have hB2 := hB.trans hb
        clear hb hB HA
        go_wp2_with fail
        go_roundg (len - (k + 1))
        case measure => omega
        case rel => exact ⟨k + 1, zs2, sum2, by omega, by omega, by go_num, HG2.out, s2, hB2⟩
      · have hnl : ¬ (k : Int) < (len : Int) := by omega
        obtain ⟨g1, g2, g3, g4, g5⟩ := HG.out
        have hzl : zs.length < 100000 := by omega
        have HO := Lib.hid (fun p h0 h1 => part_order (zs := zs) g2 (p := p) h0 h1)
        have H0 : Hid (0 ≤ atZ zs 0) := Lib.hid (by
          unfold atZ
          cases zs with
          | nil => simp
          | cons z t => simpa using g3 z (by simp))
        have H100 : Hid (atZ zs (partAt 100 zs.length) = atZ zs (zs.length - 1)) := Lib.hid (by
          by_cases e : zs = []
          · subst e; simp [atZ]
          · rw [partAt_100 (List.length_pos_iff.2 e)])
        have HP := Lib.hid (fun p h0 h1 wx h => part_any b zs sum p h0 h1 hzl wx h)
        have HLe := Lib.hid (fun wx h => least_any b zs sum hzl wx h)
        have HMo := Lib.hid (fun wx h => most_any b zs sum hzl wx h)
        obtain ⟨PV, hPV⟩ : ∃ PV : Int → Int, (fun p => atZ zs (partAt p zs.length)) = PV := ⟨_, rfl⟩
        have HPV := Lib.hid hPV
        have hPV' : ∀ p, atZ zs (partAt p zs.length) = PV p := fun p => congrFun hPV p
        simp only [hPV'] at HO HP H100
        clear hPV hPV' g1 g2 g3 g4 g5 HG hzl HPV
        generalize atZ zs 0 = y0 at *
        generalize atZ zs (zs.length - 1) = yn at *
        go_wp2_with fail
        go_loopg [5, 6] 101 (fun gk v p wz => ∃ (q : Nat) (last : Int), q ≤ 100 ∧ 100 ≤ q + gk ∧ v = .int .i64 last ∧ p = .int .i64 ((q : Int) + 1) ∧ ((q = 0 ∧ last = 0) ∨ (1 ≤ q ∧ last = PV q)) ∧ St wz b zs sum ∧ Below b w wz)
        case atStart => exact ⟨0, 0, by omega, by omega, rfl, rfl, .inl ⟨rfl, rfl⟩, hs, hB⟩
        case round =>
          obtain ⟨q, last, hq, hgq, rfl, rfl, hlast, hs2, hB2⟩ := hrel
          have HLs := Lib.hid hlast
          clear hlast hs hB
          by_cases hq100 : q < 100
          · have ho := HO.out ((q : Int) + 1) (by omega) (by omega)
            have hle : last ≤ PV ((q : Int) + 1) := by
              rcases HLs.out with ⟨h0, h1⟩ | ⟨h0, h1⟩
              · rw [h1]; exact Int.le_trans H0.out ho.1
              · have := ho.2.2 (by omega)
                rw [show (q : Int) + 1 - 1 = q by omega] at this
                rw [h1]; exact this
            have HPq := Lib.hid (HP.out ((q : Int) + 1) (by omega) (by omega))
            have HNx : Hid ((1 : Nat) ≤ q + 1 ∧ PV ((q : Int) + 1) = PV ((q + 1 : Nat) : Int)) := Lib.hid ⟨by omega, by push_cast; rfl⟩
            have d0 : decide (PV ((q : Int) + 1) < last) = false := by simp; omega
            have d1 : decide (yn < PV ((q : Int) + 1)) = false := by simp; omega
            have d2 : decide (PV ((q : Int) + 1) < y0) = false := by simp; omega
            have d3 : decide ((q : Int) + 1 ≤ 100) = true := by simp; omega
            have hq1 : (q : Int) + 1 ≤ 100 := by omega
            clear ho hle HLs
            generalize PV ((q : Int) + 1) = y at *
            go_wp2_with fail
            refine (HPq.out _ hs2).mono ?_
            rintro e w3 ⟨⟨r, rfl⟩, hb⟩
            have s3 := hs2.below hb
            have hB3 := hB2.trans (hb.mono (Nat.le_of_lt hs2.lt))
            clear hb hs2 hB2 HPq
            go_wp2_with fail
            refine (HMo.out _ s3).mono ?_
            rintro e w4 ⟨rfl, hb⟩
            have s4 := s3.below hb
            have hB4 := hB3.trans (hb.mono (Nat.le_of_lt s3.lt))
            clear hb s3 hB3
            go_wp2_with fail
            refine (HLe.out _ s4).mono ?_
            rintro e w5 ⟨rfl, hb⟩
            have s5 := s4.below hb
            have hB5 := hB4.trans (hb.mono (Nat.le_of_lt s4.lt))
            clear hb s4 hB4
            go_wp2_with fail
            go_roundg (100 - (q + 1))
            case measure => omega
            case rel => exact ⟨q + 1, y, by omega, by omega, rfl, by go_num, .inr ⟨by omega, HNx.out.2⟩, s5, hB5⟩
          · have d3 : decide ((q : Int) + 1 ≤ 100) = false := by simp; omega
            have hq1 : ¬ (q : Int) + 1 ≤ 100 := by omega
            have hl : last = yn := by
              rcases HLs.out with ⟨h0, h1⟩ | ⟨h0, h1⟩
              · omega
              · rw [h1, ← H100.out]; congr 1; omega
            subst hl
            clear HLs HO H0 H100 HP HLe
            go_wp2_with fail
            refine (pt_nil 1 _).mono ?_
            rintro e w3 ⟨rfl, hb⟩
            have s3 := hs2.below hb
            have hB3 := hB2.trans (hb.mono (Nat.le_of_lt hs2.lt))
            clear hb hs2 hB2
            go_wp2_with fail
            refine (HMo.out _ s3).mono ?_
            rintro e w4 ⟨rfl, hb⟩
            have s4 := s3.below hb
            have hB4 := hB3.trans (hb.mono (Nat.le_of_lt s3.lt))
            clear hb s3 hB3
            go_wp2_with fail
            refine (add_nil 1 _).mono ?_
            rintro e w5 ⟨rfl, rfl⟩
            go_wp2_with fail
            refine (len_nil _).mono ?_
            rintro e w6 ⟨rfl, rfl⟩
            go_wp2_with fail
            refine (least_nil _).mono ?_
            rintro e w7 ⟨rfl, rfl⟩
            go_wp2_with fail
            refine (most_nil _).mono ?_
            rintro e w8 ⟨rfl, rfl⟩
            go_wp2_with fail
            refine (mean_nil _).mono ?_
            rintro e w9 ⟨rfl, rfl⟩
            go_wp2_with fail
            refine (awake51 _).mono ?_
            rintro e w10 ⟨rfl, hb⟩
            have hB5 := hB4.trans (hb.mono (Nat.le_of_lt s4.lt))
            clear hb
            go_wp2_with fail
            go_ret
            exact ⟨rfl, by rw [HB0.out]; exact hB5⟩
namespace statsParts
theorem own : ownKnob Try.prog.godebug = none := by kernel_rfl
theorem laidOut : laidOutB Try.prog = true := by kernel_rfl
set_option maxRecDepth 100000 in
theorem lifted (os : Os) (started : os.Started) (H : Type) (enc : TypeId × Value → H) :
    ReturnsInHanded {} Try.checked os 13 .any (Rows.statsPartsSpec.pre6 enc Try.prog Try.f13 Rows.statsPartsRow.domain false) (Rows.statsPartsSpec.post enc Try.prog Try.f13 false true false false) := by
  refine law_lift (C := Try.checked) (tb := 4) own started (by kernel_rfl) Try.func13 laidOut rfl Try.underlying4 rfl (by kernel_rfl) (fun ds h => by match ds, h with | [d1], _ => rfl)
    (ChangeSpec.witness6 (enc := enc) (C := Try.checked) false ⟨#[], #[.slice none 0 0], []⟩ 8 (by kernel_rfl) (by kernel_rfl) (by kernel_rfl) (by kernel_rfl)) ?_
  intro W base args ds ps hval hA
  rw [Try.params13] at hA hval
  obtain ⟨v0, d0, rfl, rfl, h0⟩ := trodAll_one hA
  obtain ⟨al, nl, cl, rfl⟩ := okWide_slice Try.underlying106 (hval 0 106 v0 rfl rfl)
  obtain ⟨l, wl⟩ := open_intsl (k := .u16) Try.underlying106 Try.underlying107 (by kernel_rfl) h0
  exact parts_walk al nl cl l W wl
theorem proved : Rows.StatsPartsSaid :=
  OpenClaim.holds_of_wide 13 Try.f13 rfl rfl rfl rfl rfl rfl rfl ⟨rfl, rfl, rfl, rfl, rfl⟩ rfl rfl rfl rfl rfl (by kernel_rfl) Try.func13 (by kernel_rfl)
    (of_decide_eq_true (by kernel_rfl)) (by unfold Func.isWrapper; first | (rw [if_pos (by decide +kernel)]; kernel_rfl) | (rw [if_neg (by decide +kernel)]; exact ⟨rfl, rfl⟩))
    (fun os started H enc _ => lifted os started H enc)
end statsParts
#print axioms statsParts.proved
end Go.Proofs.Ytdjjienklfbalaa
