/-
  The law CookieGood returns true for every input. No condition.
-/
import Derived.Test.YtonafnhgpngfpaaCookieLaw
namespace Go.Proofs.Ytonafnhgpngfpaa
open Go.RowKit Go.ChangeShapes Go.WideShapes
set_option linter.unusedVariables false
set_option maxRecDepth 100000
set_option maxHeartbeats 2000000
theorem good_made (key who : List UInt8) (now later life : Int) (h0 : 0 ≤ now) (h1 : now < 4294967296) :
    goodB key who later life (mkC key who now) = (decide (now ≤ later) && decide (later - now ≤ life)) := by
  unfold goodB
  have h4 : (mkC key who now).take 4 = be now 4 := by unfold mkC; simp [be_length]
  have h5 : unbe (be now 4) = now := by rw [unbe_be now h0 4]; simp; omega
  rw [mkC_length, h4, h5]
  simp
theorem good_turned (key who : List UInt8) (now life : Int) (h0 : 0 ≤ now) (h1 : now < 4294967296) (hl : 0 ≤ life) (at_ : Nat) (ha : 4 ≤ at_) (hb : at_ < 12) (by_ : UInt8) :
    goodB key who now life ((mkC key who now).set at_ by_) = ((mkC key who now).getD at_ 0 == by_) := by
  have h4 : (mkC key who now).take 4 = be now 4 := by unfold mkC; simp [be_length]
  have h5 : unbe (be now 4) = now := by rw [unbe_be now h0 4]; simp; omega
  have hlen := mkC_length key who now
  unfold goodB
  have h6 : ((mkC key who now).set at_ by_).take 4 = be now 4 := by rw [List.take_set_of_le (by omega), h4]
  rw [h6, h5]
  generalize mkC key who now = m at *
  have h7 : (m.set at_ by_ == m) = (m.getD at_ 0 == by_) := by
    rw [Bool.eq_iff_iff]
    simp only [beq_iff_eq]
    have hg : m.getD at_ 0 = m[at_] := by rw [List.getD_eq_getElem?_getD, List.getElem?_eq_getElem (by omega)]; rfl
    rw [hg]
    constructor
    · intro h
      have : (m.set at_ by_)[at_]'(by simp; omega) = m[at_] := by simp only [h]
      simpa using this.symm
    · intro h
      rw [← h]
      exact List.set_getElem_self (by omega)
  rw [h7]
  simp [hlen, hl]
theorem Byt.at {w : World} {g : Nat} {m : List UInt8} (h : Byt w g m) (i : Nat) (hi : i < m.length) : w.cell? ⟨g, i, none⟩ = some (.int .u8 ((m.getD i 0).toNat : Int)) ∧ w.frozen? ⟨g, i, none⟩ = false := by
  have := h.2 i hi
  rw [List.getD_eq_getElem?_getD, List.getElem?_eq_getElem hi]
  exact this
theorem walkGood (key who : List UInt8) (hk : key.length ≤ 9223372036854775807) (hw : who.length ≤ 9223372036854775807) (n0 n1 n2 n3 n4 : Int) (h0 : 0 ≤ n0 ∧ n0 ≤ 65535) (h1 : 0 ≤ n1 ∧ n1 ≤ 65535) (h2 : 0 ≤ n2 ∧ n2 ≤ 65535) (h3 : 0 ≤ n3 ∧ n3 ≤ 65535) (h4 : 0 ≤ n4 ∧ n4 ≤ 65535) (w : World) :
    Calls Try.prog 10 #[Str key, Str who, .agg #[.int .u16 n0, .int .u16 n1, .int .u16 n2, .int .u16 n3, .int .u16 n4]] w fun e w' => e = .returned (.bool true) ∧ Below w.heap.size w w' := by
  by_cases h : 100 < key.length ∨ 100 < who.length
  · by_cases h1 : 100 < key.length
    · have h2 : (100 : Int) < (key.length : Int) := by omega
      clear h
      go_enter Try.func10, Try.ntmps10
      go_wp2_with fail
      refine (awake50 _).mono ?_
      rintro z w5 ⟨rfl, hb⟩
      go_wp2_with fail
      go_ret
      exact ⟨rfl, Below.chain hb (Below.chainAlloc (Below.refl _ _) _)⟩
    · have h2 : ¬ (100 : Int) < (key.length : Int) := by omega
      have h3 : (100 : Int) < (who.length : Int) := by omega
      clear h
      go_enter Try.func10, Try.ntmps10
      go_wp2_with fail
      refine (awake50 _).mono ?_
      rintro z w5 ⟨rfl, hb⟩
      go_wp2_with fail
      go_ret
      exact ⟨rfl, Below.chain hb (Below.chainAlloc (Below.refl _ _) _)⟩
  · have e2 : ¬ (100 : Int) < (key.length : Int) := by omega
    have e3 : ¬ (100 : Int) < (who.length : Int) := by omega
    clear h
    obtain ⟨h00, h01⟩ := h0
    obtain ⟨h10, h11⟩ := h1
    obtain ⟨h20, h21⟩ := h2
    obtain ⟨h30, h31⟩ := h3
    obtain ⟨h40, h41⟩ := h4
    have hm := mkC_length key who n0
    have hmk := make_ok key who hk (by omega) n0 h00 (by omega)
    have hg1 := good_made key who n0 n1 n2 h00 (by omega)
    have hg2 := good_turned key who n0 n2 h00 (by omega) h20 (4 + n3 % 8).toNat (by omega) (by omega) (U8 n4)
    have hG1 := good_any key who hk (by omega) n1 n2 h10 (by omega) h20 (by omega) (mkC key who n0) hm
    have hG2 := good_any key who hk (by omega) n0 n2 h00 (by omega) h20 (by omega) ((mkC key who n0).set (4 + n3 % 8).toNat (U8 n4)) (by simp [hm])
    rw [hg1] at hG1
    rw [hg2] at hG2
    have hu : ((U8 n4).toNat : Int) = n4 % 256 := by unfold U8; simp; omega
    generalize mkC key who n0 = m at *
    have HM := Lib.hid hm
    have HG1 := Lib.hid hG1
    have HG2 := Lib.hid hG2
    have HMK := Lib.hid hmk
    have HU := Lib.hid hu
    clear hg1 hg2 hG1 hG2 hmk hu
    go_enter Try.func10, Try.ntmps10
    go_wp2_with fail
    have hblk := Blk.new w #[.int .u16 n0, .int .u16 n1, .int .u16 n2, .int .u16 n3, .int .u16 n4] 67
    have hB := Below.chainAlloc (Below.refl w.heap.size w) (.cells #[.int .u16 n0, .int .u16 n1, .int .u16 n2, .int .u16 n3, .int .u16 n4] 67)
    generalize w.alloc (.cells #[.int .u16 n0, .int .u16 n1, .int .u16 n2, .int .u16 n3, .int .u16 n4] 67) = W at *
    obtain ⟨c1, f1, l1⟩ := hblk.facts
    have w0 : IntKind.i64.wrap n0 = n0 := IntWalk.i64_in _ (by omega)
    have w1 : IntKind.i64.wrap n1 = n1 := IntWalk.i64_in _ (by omega)
    have w2 : IntKind.i64.wrap n2 = n2 := IntWalk.i64_in _ (by omega)
    go_region_held3 (fun w' => w'.cell? ⟨w.heap.size, 0, none⟩ = some (.int .u16 n0) ∧ w'.cell? ⟨w.heap.size, 1, none⟩ = some (.int .u16 n1) ∧ w'.cell? ⟨w.heap.size, 2, none⟩ = some (.int .u16 n2)) (exact ⟨c1 0, c1 1, c1 2⟩) (fail)
    clear w0 w1 w2
    go_wp2_with fail
    refine (HMK.out _).mono ?_
    rintro z w1 ⟨rfl, hb⟩
    replace hblk := hblk.drew.below hb hblk.lt
    replace hB := Below.chain hb hB.drew
    clear hb c1 f1 l1
    have hml : m.length = 12 := HM.out
    have e0 : ∃ b : Bool, Hid ((decide (n0 ≤ n1) && decide (n1 - n0 ≤ n2)) = b) := ⟨_, rfl⟩
    obtain ⟨bb, e1⟩ := e0
    have hcases : (n0 ≤ n1 ∧ n1 - n0 ≤ n2 ∧ bb = true) ∨ (n0 ≤ n1 ∧ n2 < n1 - n0 ∧ bb = false) ∨ (n1 < n0 ∧ bb = false) := by
      have := e1.out
      by_cases h1 : n0 ≤ n1
      · by_cases h2 : n1 - n0 ≤ n2
        · exact .inl ⟨h1, h2, by rw [← this]; simp [h1, h2]⟩
        · exact .inr (.inl ⟨h1, by omega, by rw [← this]; simp [h1]; omega⟩)
      · exact .inr (.inr ⟨by omega, by rw [← this]; simp; omega⟩)
    have HB := Lib.hid hB
    clear hB
    rcases hcases with ⟨q1, q2, rfl⟩ | ⟨q1, q2, rfl⟩ | ⟨q1, rfl⟩
    all_goals
      go_wp2_with fail
      refine (HG1.out _).mono ?_
      rw [e1.out]
      rintro z w2 ⟨rfl, hb⟩
      have hblk2 := hblk.below hb hblk.lt
      have hB2 := Below.chain hb HB.out
      have hsz := hB2.size
      obtain ⟨cc, W3, hcv, hby, hbW, hcl, hcm⟩ := conv_bytes w2 m (by rw [HM.out]; decide)
      rw [HM.out] at hcv
      have hblk3 := hblk2.below hbW hblk2.lt
      have hB3 := Below.chain hbW hB2
      clear hb hbW hblk2 hB2
      go_wp2_with fail
      clear hcv
      obtain ⟨c1, f1, l1⟩ := hblk3.facts
      go_region_held3 (fun w' => w'.cell? ⟨w.heap.size, 3, none⟩ = some (.int .u16 n3) ∧ w'.cell? ⟨w.heap.size, 4, none⟩ = some (.int .u16 n4)) (exact ⟨c1 3, c1 4⟩) (fail)
      have hA : IntKind.i64.wrap (4 + IntKind.i64.wrap (n3.tmod 8)) = 4 + n3 % 8 := by
        rw [Int.tmod_eq_emod_of_nonneg (by omega), IntWalk.i64_in (n3 % 8) (by omega), IntWalk.i64_in _ (by omega)]
      have hU8 : IntKind.u8.wrap n4 = n4 % 256 := IntKind.wrap_u8' n4
      rw [hA, hU8]
      clear hA hU8
      have hn3 : 4 ≤ 4 + n3 % 8 ∧ 4 + n3 % 8 < 12 := by omega
      have hn4 : 0 ≤ n4 % 256 ∧ n4 % 256 < 256 := by omega
      have hu : Hid (U8 n4 = U8 (n4 % 256)) := (U8_mod n4 h40).symm
      generalize 4 + n3 % 8 = p at *
      generalize n4 % 256 = q at *
      obtain ⟨r0, r1⟩ := hn3
      obtain ⟨r2, r3⟩ := hn4
      obtain ⟨hc9, hf9⟩ := hby.at p.toNat (by rw [HM.out]; omega)
      have hfin := hby.setAt p.toNat q r2 r3
      have hcv2 := conv_string (w := (W3.setCell ⟨w2.heap.size, p.toNat, none⟩ (.int .u8 q)).drew) hfin (n := 12) (by simp [HM.out]) cc
      rw [← hu.out] at hcv2
      have hBf := hB3.setCell (p := ⟨w2.heap.size, p.toNat, none⟩) (by show w.heap.size ≤ w2.heap.size; exact hsz) (.int .u8 q)
      have hq8 : ((U8 n4).toNat : Int) = q := by rw [hu.out]; unfold U8; simp; omega
      have hsame : Hid ((m.getD p.toNat 0 == U8 n4) = (((m.getD p.toNat 0).toNat : Int) == q)) := by
        rw [Hid, Bool.eq_iff_iff]
        simp only [beq_iff_eq]
        constructor
        · intro h; rw [h, hq8]
        · intro h; apply UInt8.toNat.inj; omega
      have HG3 := HG2.out
      rw [hsame.out] at HG3
      generalize (m.getD p.toNat 0).toNat = c0 at *
      have HG := Lib.hid HG3
      have HBF := Lib.hid hBf
      clear HG3 hfin hby hq8 hBf
      by_cases hcq : (c0 : Int) = q
      · have hcq2 : ((c0 : Int) == q) = true := by simpa using hcq
        have HQ := Lib.hid hcq
        clear hcq
        go_wp2_with fail
        refine (HG.out _).mono ?_
        rw [hcq2]
        rintro z w4 ⟨rfl, hb⟩
        go_wp2_with fail
        refine (awake50 _).mono ?_
        rintro z w5 ⟨rfl, hb5⟩
        go_wp2_with fail
        go_ret
        exact ⟨rfl, Below.chain hb5 (Below.chain hb HBF.out.drew)⟩
      · have hcq2 : ((c0 : Int) == q) = false := by simpa using hcq
        go_wp2_with fail
        refine (HG.out _).mono ?_
        rw [hcq2]
        rintro z w4 ⟨rfl, hb⟩
        go_wp2_with fail
        refine (awake50 _).mono ?_
        rintro z w5 ⟨rfl, hb5⟩
        go_wp2_with fail
        go_ret
        exact ⟨rfl, Below.chain hb5 (Below.chain hb HBF.out.drew)⟩
namespace cookieGood
theorem own : ownKnob Try.prog.godebug = none := by kernel_rfl
theorem laidOut : laidOutB Try.prog = true := by kernel_rfl
set_option maxRecDepth 100000 in
theorem lifted (os : Os) (started : os.Started) (H : Type) (enc : TypeId × Value → H) :
    ReturnsInHanded {} Try.checked os 10 .any (Rows.cookieGoodSpec.pre6 enc Try.prog Try.f10 Rows.cookieGoodRow.domain false) (Rows.cookieGoodSpec.post enc Try.prog Try.f10 false true false false) := by
  refine law_lift (C := Try.checked) (tb := 4) own started (by kernel_rfl) Try.func10 laidOut rfl Try.underlying4 rfl (by kernel_rfl) (fun ds h => by match ds, h with | [d1, d2, d3], _ => rfl)
    (ChangeSpec.witness6 (enc := enc) (C := Try.checked) false ⟨#[], #[.string ⟨#[]⟩, .string ⟨#[]⟩, .agg #[.int .u16 0, .int .u16 0, .int .u16 0, .int .u16 0, .int .u16 0]], []⟩ 8 (by kernel_rfl) (by kernel_rfl) (by kernel_rfl) (by kernel_rfl)) ?_
  intro W base args ds ps hval hA
  rw [Try.params10] at hA hval
  obtain ⟨v0, v1, v2, d0, d1, d2, p0, p1, p2, rfl, rfl, rfl, h0, h1, h2⟩ := trodAll_three hA
  obtain ⟨key, rfl, rfl, rfl, wkey⟩ := Go.ChangeMaps.open_string Try.underlying9 (hval 0 9 v0 rfl rfl) h0
  obtain ⟨key, rfl⟩ := str_list key
  replace wkey := str_len wkey
  obtain ⟨who, rfl, rfl, rfl, wwho⟩ := Go.ChangeMaps.open_string Try.underlying9 (hval 1 9 v1 rfl rfl) h1
  obtain ⟨who, rfl⟩ := str_list who
  replace wwho := str_len wwho
  obtain ⟨zs, rfl, hlen, hwf⟩ := open_arr_ints (k := .u16) Try.underlying67 (by kernel_rfl) (by kernel_rfl) Try.underlying66 (hval 2 67 v2 rfl rfl) h2
  obtain ⟨n0, n1, n2, n3, n4, rfl⟩ := list5 hlen
  exact walkGood key who wkey wwho n0 n1 n2 n3 n4 (wf_u16 (hwf n0 (by simp))) (wf_u16 (hwf n1 (by simp))) (wf_u16 (hwf n2 (by simp))) (wf_u16 (hwf n3 (by simp))) (wf_u16 (hwf n4 (by simp))) W
theorem proved : Rows.CookieGoodSaid :=
  OpenClaim.holds_of_wide 10 Try.f10 rfl rfl rfl rfl rfl rfl rfl ⟨rfl, rfl, rfl, rfl, rfl⟩ rfl rfl rfl rfl rfl (by kernel_rfl) Try.func10 (by kernel_rfl)
    (of_decide_eq_true (by kernel_rfl)) (by unfold Func.isWrapper; first | (rw [if_pos (by decide +kernel)]; kernel_rfl) | (rw [if_neg (by decide +kernel)]; exact ⟨rfl, rfl⟩))
    (fun os started H enc _ => lifted os started H enc)
end cookieGood
#print axioms cookieGood.proved
end Go.Proofs.Ytonafnhgpngfpaa
