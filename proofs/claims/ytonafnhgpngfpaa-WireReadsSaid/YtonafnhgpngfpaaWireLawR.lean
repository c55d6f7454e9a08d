/-
  The law WireReads returns true for every text and every list of sizes. No condition.
-/
import Derived.Test.YtonafnhgpngfpaaWireLawN
import Derived.Test.YtonafnhgpngfpaaLift2
import Derived.Deep.LoopGhost
import Derived.Deep.DeepCutAuto
namespace Go.Proofs.Ytonafnhgpngfpaa
open Go.RowKit Go.ChangeShapes Go.WideShapes
set_option maxRecDepth 100000
set_option maxHeartbeats 2000000
theorem reads_few (s : List UInt8) (hs : s.length ≤ 2000) (a : Option Addr) (len cap : Nat) (zs : List Int) (w : World) (hz : IsInts .i64 w a len cap zs) (hlen : len ≤ 60) :
    Calls Try.prog 5 #[Str s, .slice a len cap] w fun e w' => e = .returned (.bool true) ∧ Below w.heap.size w w' := by
  obtain ⟨hzl, _, _, hwf, hcells⟩ := id hz
  have hr := hz.i64
  have hl1 : ¬ (2000 : Int) < (s.length : Int) := by omega
  have hl2 : ¬ (60 : Int) < (len : Int) := by omega
  have HZ := Lib.hid hzl
  clear hzl
  go_enter Try.func5, Try.ntmps5
  go_wp2_with fail
  refine (new_any s (by omega) _).mono ?_
  rintro x w1 ⟨rfl, hrd, hb1⟩
  go_wp2_with fail
  have hlt : w.heap.size < w1.heap.size := hrd.1.lt
  have hbk : Blk (w1.alloc (.cells #[.string ⟨s.toArray⟩, .int .i64 0] 43)) w1.heap.size #[.string ⟨s.toArray⟩, .int .i64 0] 43 := Blk.new _ _ _
  have hB := Below.chainAlloc hb1 (.cells #[.string ⟨s.toArray⟩, .int .i64 0] 43)
  have hrd2 : Rd (w1.alloc (.cells #[.string ⟨s.toArray⟩, .int .i64 0] 43)) w.heap.size s 0 := ⟨hrd.1.alloc _, hrd.2⟩
  clear hrd hb1
  generalize w1.alloc (.cells #[.string ⟨s.toArray⟩, .int .i64 0] 43) = W at *
  generalize w1.heap.size = rb at *
  go_loopg [7] len (fun gk i wr => ∃ (k : Nat) (s' : List UInt8) (e' : Int), k ≤ len ∧ len ≤ k + gk ∧ i = .int .i64 k ∧ Rd wr w.heap.size s' e' ∧ Blk wr rb #[.string ⟨s'.toArray⟩, .int .i64 e'] 43 ∧ Below w.heap.size w wr)
  case atStart => exact ⟨0, s, 0, by omega, by omega, rfl, hrd2, hbk, hB⟩
  case round =>
    obtain ⟨k, s', e', hk, hgk, rfl, hrd, hbk, hB⟩ := hrel
    by_cases hlt' : k < len
    · obtain ⟨sb, so, rfl, hsb, hcell⟩ := hcells.resolve_left (by omega)
      have hck := hcell k (by rw [HZ.out]; exact hlt')
      have hzk := hr (zs[k]'(by rw [HZ.out]; exact hlt')) (by simp)
      generalize zs[k]'(by rw [HZ.out]; exact hlt') = z at *
      obtain ⟨hz0, hz1⟩ := hzk
      replace hck : wr.cell? ⟨sb, so + k, none⟩ = some (.int .i64 z) := (hB.cell (p := ⟨sb, so + k, none⟩) hsb).trans hck
      have hsl := hrd.2
      by_cases hpar : (k : Int) % 2 = 0
      · have hp : ((k : Int) % 2 == 0) = true := by simpa using hpar
        go_upto_region 10 with fail
        go_cut [8, 9] (fun s8 s9 wx => ∃ g : Nat, s8 = .pointer (some ⟨g, 0, none⟩) ∧ s9 = .int .u32 (unbe (tk s' e' z (badB z)).1) ∧ Blk wx g #[.string ⟨(tk s' e' z (badB z)).2.1.toArray⟩, .int .i64 (tk s' e' z (badB z)).2.2] 43 ∧ wr.heap.size ≤ g ∧ Below wr.heap.size wr wx)
        case first =>
          have hbf := hbk.facts
          have hmk : ∀ w', Below wr.heap.size wr w' → (w'.cell? ⟨rb, 0, none⟩ = some (.string ⟨s'.toArray⟩) ∧ w'.cell? ⟨rb, 1, none⟩ = some (.int .i64 e') ∧ w'.cell? ⟨sb, so + k, none⟩ = some (.int .i64 z) ∧ Below wr.heap.size wr w' ∧ wr.heap.size ≤ w'.heap.size) := fun w' h =>
            ⟨(h.cell (p := ⟨rb, 0, none⟩) hbf.2.2).trans (hbf.1 0), (h.cell (p := ⟨rb, 1, none⟩) hbf.2.2).trans (hbf.1 1), (h.cell (p := ⟨sb, so + k, none⟩) (Nat.lt_of_lt_of_le hsb hB.size)).trans hck, h, h.size⟩
          have HMK := Lib.hid hmk
          clear hmk hbf
          go_region_held3 (fun w' => w'.cell? ⟨rb, 0, none⟩ = some (.string ⟨s'.toArray⟩) ∧ w'.cell? ⟨rb, 1, none⟩ = some (.int .i64 e') ∧ w'.cell? ⟨sb, so + k, none⟩ = some (.int .i64 z) ∧ Below wr.heap.size wr w' ∧ wr.heap.size ≤ w'.heap.size)
            (first
              | exact HMK.out _ (Below.refl _ _).drew
              | (go_split_ands; first
                  | exact HMK.out _ (Below.chain hb (by assumption))
                  | exact HMK.out _ (Below.chainAlloc (by assumption) _)
                  | exact HMK.out _ (Below.chainAlloc hB1 _)
                  | exact HMK.out _ ((hB1.setCell (by simp) _).setCell (by simp) _)))
            ((go_at_call 27; refine (rnum_any s' e' z hsl _).mono ?_; unfold rNumPost; rintro x w1 ⟨rfl, hb⟩; have hB1 : Below wr.heap.size wr w1 := Below.chain hb (by first | exact (Below.refl _ _).drew | exact (Below.chainAlloc (Below.refl _ _) _).drew); try (have kb := (Blk.below (b := wr.heap.size) (Blk.new wr _ _).drew hb (by simp)); obtain ⟨c1, f1, l1⟩ := kb.facts)))
          all_goals
            go_wp2_with fail
            go_meet
            first
              | exact ⟨_, rfl, rfl, (kb.setAt 0 _ rfl).setAt 1 _ (by simp), Nat.le_refl _, (hB1.setCell (by simp) _).setCell (by simp) _⟩
              | exact ⟨_, rfl, rfl, Blk.new _ _ _, hB1.size, Below.chainAlloc hB1 _⟩
        case rest =>
          obtain ⟨g, rfl, rfl, hg, hgl, hB2⟩ := hcut
          have hrd2 : Rd wc w.heap.size s' e' := ⟨hrd.1.below hB2 hrd.1.lt, hrd.2⟩
          have hbk2 := hbk.below hB2 hbk.lt
          have hgr : g ≠ rb := by have := hbk.lt; omega
          have hck2 : wc.cell? ⟨sb, so + k, none⟩ = some (.int .i64 z) := (hB2.cell (p := ⟨sb, so + k, none⟩) (Nat.lt_of_lt_of_le hsb hB.size)).trans hck
          have hB3 := Below.chain hB2 hB
          clear hB2 hrd hbk hck hB
          obtain ⟨c1, f1, l1⟩ := hg.facts
          obtain ⟨c2, f2, l2⟩ := hbk2.facts
          go_wp2_with fail
          have hne : w.heap.size ≠ rb := by omega
          refine (num_any w.heap.size s' e' z _ ⟨(hrd2.1.setOther _ _ hne).setOther _ _ hne, hrd2.2⟩).mono ?_
          rintro x w2 ⟨rfl, hrd3, ho⟩
          have hbk3 := (((hbk2.setAt 0 (.string ⟨(tk s' e' z (badB z)).2.1.toArray⟩) rfl).setAt 1 (.int .i64 (tk s' e' z (badB z)).2.2) (cs' := #[.string ⟨(tk s' e' z (badB z)).2.1.toArray⟩, .int .i64 (tk s' e' z (badB z)).2.2]) (by simp))).only ho (by simpa using hne.symm)
          have hB4 : Below w.heap.size w w2 := Below.only ((hB3.setCell (by show w.heap.size ≤ rb; omega) _).setCell (by show w.heap.size ≤ rb; omega) _) ho (by simp)
          clear ho hB3 hbk2 hrd2 c1 f1 l1 c2 f2 l2 hck2
          generalize (tk s' e' z (badB z)).1 = x1 at *
          generalize (tk s' e' z (badB z)).2.1 = x2 at *
          generalize (tk s' e' z (badB z)).2.2 = x3 at *
          go_wp2_with fail
          go_region_held3 (fun w' => w'.cell? ⟨rb, 0, none⟩ = some (.string ⟨x2.toArray⟩) ∧ w'.cell? ⟨rb, 1, none⟩ = some (.int .i64 x3) ∧ Rd w' w.heap.size x2 x3 ∧ Blk w' rb #[.string ⟨x2.toArray⟩, .int .i64 x3] 43 ∧ Below w.heap.size w w')
            (first
              | exact ⟨hbk3.facts.1 0, hbk3.facts.1 1, hrd3, hbk3, hB4.drew⟩
              | (go_split_ands; exact ⟨by assumption, by assumption, by assumption, by assumption, by assumption⟩))
            ((first
              | (go_at_call 24; refine (left_any w.heap.size x2 x3 _ (by (go_split_ands; assumption))).mono ?_; rintro x wy ⟨rfl, rfl⟩)
              | (go_at_call 25; refine (err_any w.heap.size x2 x3 _ (by (go_split_ands; assumption))).mono ?_; rintro x wy ⟨rfl, rfl⟩)))
          go_wp2_with fail
          go_roundg (gk - 1)
          case measure => omega
          case rel => exact ⟨k + 1, x2, x3, by omega, by omega, by go_num, hrd3, hbk3, hB4.drew⟩
      · have hp : ((k : Int) % 2 == 0) = false := by simpa using hpar
        go_upto_region 14 with fail
        go_cut [10, 11] (fun s8 s9 wx => ∃ g : Nat, s8 = .pointer (some ⟨g, 0, none⟩) ∧ s9 = .string ⟨(tk s' e' z (decide (z < 0))).1.toArray⟩ ∧ Blk wx g #[.string ⟨(tk s' e' z (decide (z < 0))).2.1.toArray⟩, .int .i64 (tk s' e' z (decide (z < 0))).2.2] 43 ∧ wr.heap.size ≤ g ∧ Below wr.heap.size wr wx)
        case first =>
          have hbf := hbk.facts
          have hmk : ∀ w', Below wr.heap.size wr w' → (w'.cell? ⟨rb, 0, none⟩ = some (.string ⟨s'.toArray⟩) ∧ w'.cell? ⟨rb, 1, none⟩ = some (.int .i64 e') ∧ w'.cell? ⟨sb, so + k, none⟩ = some (.int .i64 z) ∧ Below wr.heap.size wr w' ∧ wr.heap.size ≤ w'.heap.size) := fun w' h =>
            ⟨(h.cell (p := ⟨rb, 0, none⟩) hbf.2.2).trans (hbf.1 0), (h.cell (p := ⟨rb, 1, none⟩) hbf.2.2).trans (hbf.1 1), (h.cell (p := ⟨sb, so + k, none⟩) (Nat.lt_of_lt_of_le hsb hB.size)).trans hck, h, h.size⟩
          have HMK := Lib.hid hmk
          clear hmk hbf
          go_region_held3 (fun w' => w'.cell? ⟨rb, 0, none⟩ = some (.string ⟨s'.toArray⟩) ∧ w'.cell? ⟨rb, 1, none⟩ = some (.int .i64 e') ∧ w'.cell? ⟨sb, so + k, none⟩ = some (.int .i64 z) ∧ Below wr.heap.size wr w' ∧ wr.heap.size ≤ w'.heap.size)
            (first
              | exact HMK.out _ (Below.refl _ _).drew
              | (go_split_ands; first
                  | exact HMK.out _ (Below.chain hb (by assumption))
                  | exact HMK.out _ (Below.chainAlloc (by assumption) _)
                  | exact HMK.out _ (Below.chainAlloc hB1 _)
                  | exact HMK.out _ ((hB1.setCell (by simp) _).setCell (by simp) _)))
            ((go_at_call 28; refine (rbytes_any s' e' z hsl _).mono ?_; unfold rBytesPost; rintro x w1 ⟨rfl, hb⟩; have hB1 : Below wr.heap.size wr w1 := Below.chain hb (by first | exact (Below.refl _ _).drew | exact (Below.chainAlloc (Below.refl _ _) _).drew); try (have kb := (Blk.below (b := wr.heap.size) (Blk.new wr _ _).drew hb (by simp)); obtain ⟨c1, f1, l1⟩ := kb.facts)))
          all_goals
            go_wp2_with fail
            go_meet
            first
              | exact ⟨_, rfl, rfl, (kb.setAt 0 _ rfl).setAt 1 _ (by simp), Nat.le_refl _, (hB1.setCell (by simp) _).setCell (by simp) _⟩
              | exact ⟨_, rfl, rfl, Blk.new _ _ _, hB1.size, Below.chainAlloc hB1 _⟩
        case rest =>
          obtain ⟨g, rfl, rfl, hg, hgl, hB2⟩ := hcut
          have hrd2 : Rd wc w.heap.size s' e' := ⟨hrd.1.below hB2 hrd.1.lt, hrd.2⟩
          have hbk2 := hbk.below hB2 hbk.lt
          have hgr : g ≠ rb := by have := hbk.lt; omega
          have hck2 : wc.cell? ⟨sb, so + k, none⟩ = some (.int .i64 z) := (hB2.cell (p := ⟨sb, so + k, none⟩) (Nat.lt_of_lt_of_le hsb hB.size)).trans hck
          have hB3 := Below.chain hB2 hB
          clear hB2 hrd hbk hck hB
          obtain ⟨c1, f1, l1⟩ := hg.facts
          obtain ⟨c2, f2, l2⟩ := hbk2.facts
          go_wp2_with fail
          have hne : w.heap.size ≠ rb := by omega
          refine (bytes_any w.heap.size s' e' z _ ⟨(hrd2.1.setOther _ _ hne).setOther _ _ hne, hrd2.2⟩).mono ?_
          rintro x w2 ⟨rfl, hrd3, ho⟩
          have hbk3 := (((hbk2.setAt 0 (.string ⟨(tk s' e' z (decide (z < 0))).2.1.toArray⟩) rfl).setAt 1 (.int .i64 (tk s' e' z (decide (z < 0))).2.2) (cs' := #[.string ⟨(tk s' e' z (decide (z < 0))).2.1.toArray⟩, .int .i64 (tk s' e' z (decide (z < 0))).2.2]) (by simp))).only ho (by simpa using hne.symm)
          have hB4 : Below w.heap.size w w2 := Below.only ((hB3.setCell (by show w.heap.size ≤ rb; omega) _).setCell (by show w.heap.size ≤ rb; omega) _) ho (by simp)
          clear ho hB3 hbk2 hrd2 c1 f1 l1 c2 f2 l2 hck2
          generalize (tk s' e' z (decide (z < 0))).1 = x1 at *
          generalize (tk s' e' z (decide (z < 0))).2.1 = x2 at *
          generalize (tk s' e' z (decide (z < 0))).2.2 = x3 at *
          go_wp2_with fail
          go_region_held3 (fun w' => w'.cell? ⟨rb, 0, none⟩ = some (.string ⟨x2.toArray⟩) ∧ w'.cell? ⟨rb, 1, none⟩ = some (.int .i64 x3) ∧ Rd w' w.heap.size x2 x3 ∧ Blk w' rb #[.string ⟨x2.toArray⟩, .int .i64 x3] 43 ∧ Below w.heap.size w w')
            (first
              | exact ⟨hbk3.facts.1 0, hbk3.facts.1 1, hrd3, hbk3, hB4.drew⟩
              | (go_split_ands; exact ⟨by assumption, by assumption, by assumption, by assumption, by assumption⟩))
            ((first
              | (go_at_call 24; refine (left_any w.heap.size x2 x3 _ (by (go_split_ands; assumption))).mono ?_; rintro x wy ⟨rfl, rfl⟩)
              | (go_at_call 25; refine (err_any w.heap.size x2 x3 _ (by (go_split_ands; assumption))).mono ?_; rintro x wy ⟨rfl, rfl⟩)))
          go_wp2_with fail
          go_roundg (gk - 1)
          case measure => omega
          case rel => exact ⟨k + 1, x2, x3, by omega, by omega, by go_num, hrd3, hbk3, hB4.drew⟩
    · have hke : k = len := by omega
      have hlt2 := Lib.hid hke
      clear hke
      go_wp2_with fail
      refine (awake09 _).mono ?_
      rintro x w2 ⟨rfl, hb⟩
      go_wp2_with fail
      go_ret
      exact ⟨rfl, Below.chain hb hB⟩
theorem reads_many (s : List UInt8) (hs : s.length ≤ 9223372036854775807) (a : Option Addr) (len cap : Nat) (w : World) (hl : len ≤ 9223372036854775807) (hm : 2000 < s.length ∨ 60 < len) :
    Calls Try.prog 5 #[Str s, .slice a len cap] w fun e w' => e = .returned (.bool true) ∧ Below w.heap.size w w' := by
  by_cases h1 : 2000 < s.length
  · have h2 : (2000 : Int) < (s.length : Int) := by omega
    clear hm
    go_enter Try.func5, Try.ntmps5
    go_wp2_with fail
    refine (awake09 _).mono ?_
    rintro x w2 ⟨rfl, hb⟩
    go_wp2_with fail
    go_ret
    exact ⟨rfl, hb⟩
  · have h2 : ¬ (2000 : Int) < (s.length : Int) := by omega
    have h3 : (60 : Int) < (len : Int) := by omega
    clear hm
    go_enter Try.func5, Try.ntmps5
    go_wp2_with fail
    refine (awake09 _).mono ?_
    rintro x w2 ⟨rfl, hb⟩
    go_wp2_with fail
    go_ret
    exact ⟨rfl, hb⟩
theorem walkReads (s : List UInt8) (hs : s.length ≤ 9223372036854775807) (a : Option Addr) (len cap : Nat) (zs : List Int) (w : World) (hz : IsInts .i64 w a len cap zs) :
    Calls Try.prog 5 #[Str s, .slice a len cap] w fun e w' => e = .returned (.bool true) ∧ Below w.heap.size w w' := by
  by_cases h : s.length ≤ 2000 ∧ len ≤ 60
  · exact reads_few s h.1 a len cap zs w hz h.2
  · exact reads_many s hs a len cap w (by have := hz.2.1; have := hz.2.2.1; unfold maxLen at this; omega) (by omega)
namespace wireReads
theorem own : ownKnob Try.prog.godebug = none := by kernel_rfl
theorem laidOut : laidOutB Try.prog = true := by kernel_rfl
set_option maxRecDepth 100000 in
theorem lifted (os : Os) (started : os.Started) (H : Type) (enc : TypeId × Value → H) :
    ReturnsInHanded {} Try.checked os 5 .any (Rows.wireReadsSpec.pre6 enc Try.prog Try.f5 Rows.wireReadsRow.domain false) (Rows.wireReadsSpec.post enc Try.prog Try.f5 false true false false) := by
  refine law_lift (C := Try.checked) (tb := 4) own started (by kernel_rfl) Try.func5 laidOut rfl Try.underlying4 rfl (by kernel_rfl) (fun ds h => by match ds, h with | [d1, d2], _ => rfl)
    (ChangeSpec.witness6 (enc := enc) (C := Try.checked) false ⟨#[], #[.string ⟨#[]⟩, .slice none 0 0], []⟩ 8 (by kernel_rfl) (by kernel_rfl) (by kernel_rfl) (by kernel_rfl)) ?_
  intro W base args ds ps hval hA
  rw [Try.params5] at hA hval
  obtain ⟨v0, v1, d0, d1, p0, p1, rfl, rfl, rfl, h0, h1⟩ := trodAll_two hA
  obtain ⟨s, rfl, rfl, rfl, ws⟩ := Go.ChangeMaps.open_string Try.underlying9 (hval 0 9 v0 rfl rfl) h0
  obtain ⟨s, rfl⟩ := str_list s
  replace ws := str_len ws
  obtain ⟨al, nl, cl, rfl⟩ := okWide_slice Try.underlying41 (hval 1 41 v1 rfl rfl)
  obtain ⟨l, wl⟩ := open_intsl (k := .i64) Try.underlying41 Try.underlying3 (by kernel_rfl) h1
  exact walkReads s ws al nl cl l W wl
theorem proved : Rows.WireReadsSaid :=
  OpenClaim.holds_of_wide 5 Try.f5 rfl rfl rfl rfl rfl rfl rfl ⟨rfl, rfl, rfl, rfl, rfl⟩ rfl rfl rfl rfl rfl (by kernel_rfl) Try.func5 (by kernel_rfl)
    (of_decide_eq_true (by kernel_rfl)) (by unfold Func.isWrapper; first | (rw [if_pos (by decide +kernel)]; kernel_rfl) | (rw [if_neg (by decide +kernel)]; exact ⟨rfl, rfl⟩))
    (fun os started H enc _ => lifted os started H enc)
end wireReads
#print axioms wireReads.proved
end Go.Proofs.Ytonafnhgpngfpaa
