/-
  The law BitsMarks returns true for every marks, every mark and every pair of numbers. No condition.
-/
import Derived.Test.YtonafnhgpngfpaaBits4
import Derived.Test.YtonafnhgpngfpaaLift3
namespace Go.Proofs.Ytonafnhgpngfpaa
open Go.RowKit Go.ChangeShapes Go.WideShapes
set_option linter.unusedVariables false
set_option maxRecDepth 100000
set_option maxHeartbeats 2000000
theorem lit_ints {w : World} {g : Nat} {cs : Array Value} {t : TypeId} (h : Blk w g cs t) (zs : List Int) (hc : cs = (zs.map (Value.int .i64)).toArray) (hwf : ∀ z ∈ zs, (Lit.int .i64 z).wf = true) (hm : zs.length ≤ 1000) (n : Nat) (hn : n = zs.length) : IsInts .i64 w (some ⟨g, 0, none⟩) n n zs := by
  subst hn
  refine ⟨rfl, Nat.le_refl _, by unfold maxLen; omega, hwf, .inr ⟨g, 0, rfl, h.lt, fun i hi => ?_⟩⟩
  rw [h.facts.1, hc]
  simp [hi]
theorem awake11 (w : World) : Calls Try.prog 30 #[] w fun e w' => e = .returned (.bool true) ∧ Below w.heap.size w w' := by
  have h32 : (withB zero32 [0, 2]).length = 32 := by rw [withB_length]; rfl
  have hS1 : setS (withB zero32 [0, 2]) 255 = setB (withB zero32 [0, 2]) 255 := by decide +kernel
  have hE1 : setE (withB zero32 [0, 2]) 255 = 0 := by decide +kernel
  have hE2 : setE (withB zero32 [0, 2]) 256 = 2 := by decide +kernel
  have hE3 : setE [120] 0 = 5 := by decide +kernel
  have hm1 : mis (withB zero32 [0, 2]) 4 9 = [1, 3] := by decide +kernel
  have hm2 : mis (withB zero32 [0, 2]) 4 1 = [1] := by decide +kernel
  have hh1 : hasB (setB (withB zero32 [0, 2]) 255) 255 = true := by decide +kernel
  have hh2 : hasB (withB zero32 [0, 2]) 255 = false := by decide +kernel
  have hc1 : cntTo (setB (withB zero32 [0, 2]) 255) 256 = 3 := by decide +kernel
  have hc2 : cntTo [120] 256 = 0 := by decide +kernel
  have h321 : (setB (withB zero32 [0, 2]) 255).length = 32 := by rw [setB_length]; exact h32
  have hz : zero32.length = 32 := rfl
  have hof := fun (g : Nat) (w : World) (h : Blk w g #[.int .i64 0, .int .i64 2] 3) => of_any (some ⟨g, 0, none⟩) 2 2 [0, 2] w (lit_ints h [0, 2] rfl (by decide) (by decide) 2 rfl)
  generalize setB (withB zero32 [0, 2]) 255 = s1 at *
  generalize withB zero32 [0, 2] = s0 at *
  generalize setS s0 256 = s2 at *
  generalize setS [120] 0 = s3 at *
  generalize zero32 = z32 at *
  have HE1 := Lib.hid hE1
  have HS1 := Lib.hid hS1
  have HE2 := Lib.hid hE2
  have HE3 := Lib.hid hE3
  have HM1 := Lib.hid hm1
  have HM2 := Lib.hid hm2
  have HH1 := Lib.hid hh1
  have HH2 := Lib.hid hh2
  have HC1 := Lib.hid hc1
  have HC2 := Lib.hid hc2
  have H0 := Lib.hid h32
  have H1 := Lib.hid h321
  have HOF := Lib.hid hof
  clear hE1 hS1 hE2 hE3 hm1 hm2 hh1 hh2 hc1 hc2 h32 h321 hof
  go_enter Try.func30, Try.ntmps30
  go_wp2_with fail
  refine (HOF.out w.heap.size _ (Blk.new _ _ _)).mono ?_
  rintro x w1 ⟨rfl, hb⟩
  have hB := Below.chain hb (Below.chainAlloc (Below.refl _ _) _)
  clear hb
  go_wp2_with fail
  refine (set_any s0 (by rw [H0.out]; decide) 255 (by decide) (by decide) _).mono ?_
  rw [HE1.out, HS1.out]
  rintro x w2 ⟨rfl, hb⟩
  replace hB := Below.chain hb hB
  clear hb
  go_wp2_with fail
  refine (set_any s0 (by rw [H0.out]; decide) 256 (by decide) (by decide) _).mono ?_
  rw [HE2.out]
  rintro x w3 ⟨rfl, hb⟩
  replace hB := Below.chain hb hB
  clear hb
  go_wp2_with fail
  refine (set_any [120] (by decide) 0 (by decide) (by decide) _).mono ?_
  rw [HE3.out]
  rintro x w4 ⟨rfl, hb⟩
  replace hB := Below.chain hb hB
  clear hb
  go_wp2_with fail
  refine (missing_any s0 (by rw [H0.out]; decide) 4 9 (by decide) (by decide) (by decide) (by decide) _).mono ?_
  unfold MisPost
  rw [HM1.out]
  rintro x w5 ⟨a, cap, rfl, hi, hb⟩
  replace hB := Below.chain hb hB
  clear hb
  have HI := Lib.hid hi
  clear hi
  go_wp2_with fail
  refine (ints_same _ _ _ _ _ _ [1, 3] _ (HI.out.below (Below.chainAlloc (Below.refl _ _) _)) (lit_ints (Blk.new _ _ _) [1, 3] rfl (by decide) (by decide) 2 rfl)).mono ?_
  rintro x w6 ⟨rfl, hb⟩
  replace hB := Below.chain hb (Below.chainAlloc hB _)
  clear hb HI
  go_wp2_with fail
  refine (missing_any s0 (by rw [H0.out]; decide) 4 1 (by decide) (by decide) (by decide) (by decide) _).mono ?_
  unfold MisPost
  rw [HM2.out]
  rintro x w7 ⟨a2, cap2, rfl, hi, hb⟩
  replace hB := Below.chain hb hB
  clear hb
  have HI := Lib.hid hi
  clear hi
  go_wp2_with fail
  refine (ints_same _ _ _ _ _ _ [1] _ (HI.out.below (Below.chainAlloc (Below.refl _ _) _)) (lit_ints (Blk.new _ _ _) [1] rfl (by decide) (by decide) 1 rfl)).mono ?_
  rintro x w8 ⟨rfl, hb⟩
  replace hB := Below.chain hb (Below.chainAlloc hB _)
  clear hb HI
  go_wp2_with fail
  refine (has_any s1 (by rw [H1.out]; decide) 255 _).mono ?_
  rw [HH1.out]
  rintro x w9 ⟨rfl, hb⟩
  replace hB := Below.chain hb hB
  clear hb
  go_wp2_with fail
  refine (has_any s0 (by rw [H0.out]; decide) 255 _).mono ?_
  rw [HH2.out]
  rintro x w10 ⟨rfl, hb⟩
  replace hB := Below.chain hb hB
  clear hb
  go_wp2_with fail
  refine (count_any s1 (by rw [H1.out]; decide) _).mono ?_
  rw [HC1.out]
  rintro x w11 ⟨rfl, hb⟩
  replace hB := Below.chain hb hB
  clear hb
  go_wp2_with fail
  refine (empty_any _).mono ?_
  rintro x w12 ⟨rfl, hb⟩
  replace hB := Below.chain hb hB
  clear hb
  have hzl : zero32.length = 32 := rfl
  generalize zero32 = zz at *
  go_wp2_with fail
  refine (count_any [120] (by decide) _).mono ?_
  rw [HC2.out]
  rintro x w13 ⟨rfl, hb⟩
  replace hB := Below.chain hb hB
  clear hb
  go_wp2_with fail
  go_ret
  exact ⟨rfl, hB⟩
theorem walkMarks (l : List UInt8) (hl : l.length ≤ 9223372036854775807) (i n m : Int) (hi0 : -9223372036854775808 ≤ i) (hi1 : i ≤ 9223372036854775807) (hn0 : -9223372036854775808 ≤ n) (hn1 : n ≤ 9223372036854775807) (hm0 : -9223372036854775808 ≤ m) (hm1 : m ≤ 9223372036854775807) (w : World) :
    Calls Try.prog 7 #[Str l, .int .i64 i, .agg #[.int .i64 n, .int .i64 m]] w fun e w' => e = .returned (.bool true) ∧ Below w.heap.size w w' := by
  by_cases hbig : 100 < l.length
  · have hb' : (100 : Int) < (l.length : Int) := by omega
    clear hbig
    go_enter Try.func7, Try.ntmps7
    go_wp2_with fail
    refine (awake11 _).mono ?_
    rintro x w1 ⟨rfl, hb⟩
    go_wp2_with fail
    go_ret
    exact ⟨rfl, Below.chain hb (Below.chainAlloc (Below.refl _ _) _)⟩
  · have hb' : ¬ (100 : Int) < (l.length : Int) := by omega
    clear hbig
    have hset := set_any l hl i hi0 hi1
    have hrset := rset_any l hl i hi0 hi1
    generalize setS l i = s at *
    generalize setE l i = e at *
    have HS := Lib.hid hset
    have HR := Lib.hid hrset
    clear hset hrset
    go_enter Try.func7, Try.ntmps7
    go_wp2_with fail
    refine (HS.out _).mono ?_
    rintro x w1 ⟨rfl, hb⟩
    have hk1 := (Blk.new w _ _).below hb (by simp)
    have hB1 := Below.chain hb (Below.chainAlloc (Below.refl _ _) _)
    clear hb
    go_wp2_with fail
    refine (HR.out _).mono ?_
    rintro x w2 ⟨rfl, hb⟩
    have hk2 := hk1.below hb hk1.lt
    have hB2 := Below.chain hb hB1
    clear hb hk1 hB1
    have hbf := hk2.facts
    have hmk : ∀ w', Below w2.heap.size w2 w' → (w'.cell? ⟨w.heap.size, 0, none⟩ = some (.int .i64 n) ∧ w'.cell? ⟨w.heap.size, 1, none⟩ = some (.int .i64 m) ∧ Below w2.heap.size w2 w') := fun w' h =>
      ⟨(h.cell (p := ⟨w.heap.size, 0, none⟩) hbf.2.2).trans (hbf.1 0), (h.cell (p := ⟨w.heap.size, 1, none⟩) hbf.2.2).trans (hbf.1 1), h⟩
    have HMK := Lib.hid hmk
    clear hmk hbf
    go_wp2_with fail
    go_region_held3 (fun w' => w'.cell? ⟨w.heap.size, 0, none⟩ = some (.int .i64 n) ∧ w'.cell? ⟨w.heap.size, 1, none⟩ = some (.int .i64 m) ∧ Below w2.heap.size w2 w')
      (first
        | exact HMK.out _ (Below.refl _ _).drew
        | (go_split_ands; exact HMK.out _ (Below.chain hb (by assumption))))
      ((first
        | (go_at_call 33; refine (has_any l hl i _).mono ?_; rintro x w3 ⟨rfl, hb⟩)
        | (go_at_call 34; refine (rhas_any l hl i _).mono ?_; rintro x w3 ⟨rfl, hb⟩)
        | (go_at_call 35; refine (count_any l hl _).mono ?_; rintro x w3 ⟨rfl, hb⟩)
        | (go_at_call 36; refine (rcount_any l hl _).mono ?_; rintro x w3 ⟨rfl, hb⟩)
        | (go_at_call 38; refine (missing_any l hl n m hn0 hn1 hm0 hm1 _).mono ?_; unfold MisPost; rintro x w3 ⟨a1, c1, rfl, hi1, hb⟩)
        | (go_at_call 39; refine (rmissing_any l hl n m hn0 hn1 hm0 hm1 _).mono ?_; unfold MisPost; rintro x w3 ⟨a2, c2, rfl, hi2, hb⟩; replace hi1 := hi1.below hb)
        | (go_at_call 37; refine (ints_same _ _ _ _ _ _ _ _ hi1 hi2).mono ?_; rintro x w3 ⟨rfl, hb⟩)
        | (go_at_call 30; refine (awake11 _).mono ?_; rintro x w3 ⟨rfl, hb⟩)))
    go_wp2_with fail
    go_ret
    exact ⟨rfl, by go_split_ands; exact Below.chain (by assumption) hB2⟩
namespace bitsMarks
theorem own : ownKnob Try.prog.godebug = none := by kernel_rfl
theorem laidOut : laidOutB Try.prog = true := by kernel_rfl
set_option maxRecDepth 100000 in
theorem lifted (os : Os) (started : os.Started) (H : Type) (enc : TypeId × Value → H) :
    ReturnsInHanded {} Try.checked os 7 .any (Rows.bitsMarksSpec.pre6 enc Try.prog Try.f7 Rows.bitsMarksRow.domain false) (Rows.bitsMarksSpec.post enc Try.prog Try.f7 false true false false) := by
  refine law_lift (C := Try.checked) (tb := 4) own started (by kernel_rfl) Try.func7 laidOut rfl Try.underlying4 rfl (by kernel_rfl) (fun ds h => by match ds, h with | [d1, d2, d3], _ => rfl)
    (ChangeSpec.witness6 (enc := enc) (C := Try.checked) false ⟨#[], #[.string ⟨#[]⟩, .int .i64 0, .agg #[.int .i64 0, .int .i64 0]], []⟩ 8 (by kernel_rfl) (by kernel_rfl) (by kernel_rfl) (by kernel_rfl)) ?_
  intro W base args ds ps hval hA
  rw [Try.params7] at hA hval
  obtain ⟨v0, v1, v2, d0, d1, d2, p0, p1, p2, rfl, rfl, rfl, h0, h1, h2⟩ := trodAll_three hA
  obtain ⟨l, rfl, rfl, rfl, wl⟩ := Go.ChangeMaps.open_string Try.underlying9 (hval 0 9 v0 rfl rfl) h0
  obtain ⟨l, rfl⟩ := str_list l
  replace wl := str_len wl
  obtain ⟨i, rfl, rfl, rfl, wi⟩ := open_int Try.underlying3 (hval 1 3 v1 rfl rfl) h1
  replace wi := by simpa [Lit.wf, IntKind.min, IntKind.max, IntKind.signed, IntKind.bits] using wi
  obtain ⟨zs, rfl, hlen, hwf⟩ := open_arr_ints (k := .i64) Try.underlying51 (by kernel_rfl) (by kernel_rfl) Try.underlying3 (hval 2 51 v2 rfl rfl) h2
  obtain ⟨n, m, rfl⟩ := list2 hlen
  have wn := wf_i64 (hwf n (by simp))
  have wm := wf_i64 (hwf m (by simp))
  exact walkMarks l wl i n m wi.1 wi.2 wn.1 wn.2 wm.1 wm.2 W
theorem proved : Rows.BitsMarksSaid :=
  OpenClaim.holds_of_wide 7 Try.f7 rfl rfl rfl rfl rfl rfl rfl ⟨rfl, rfl, rfl, rfl, rfl⟩ rfl rfl rfl rfl rfl (by kernel_rfl) Try.func7 (by kernel_rfl)
    (of_decide_eq_true (by kernel_rfl)) (by unfold Func.isWrapper; first | (rw [if_pos (by decide +kernel)]; kernel_rfl) | (rw [if_neg (by decide +kernel)]; exact ⟨rfl, rfl⟩))
    (fun os started H enc _ => lifted os started H enc)
end bitsMarks
#print axioms bitsMarks.proved
end Go.Proofs.Ytonafnhgpngfpaa
