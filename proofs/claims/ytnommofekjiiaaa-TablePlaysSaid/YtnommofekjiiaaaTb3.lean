/-
  The document's table: known (chapter 18).
-/
import Derived.Test.YtnommofekjiiaaaTb2
import Derived.Test.YtnommofekjiiaaaTaOnce0
namespace Go.Proofs.Ytnommofekjiiaaa
open Go Go.RowKit Go.MuLone
set_option linter.unusedVariables false
set_option linter.unusedSimpArgs false
set_option maxRecDepth 100000
set_option maxHeartbeats 2000000
theorem low_hit {l : List Sh} (hr : Rise l) {i : Nat} {y : Sh} (hi : l[i]? = some y) : lowN y.1 l = i ∧ hitN y.1 l = true := by
  have hl : i < l.length := (List.getElem?_eq_some_iff.1 hi).1
  have h1 : lowN y.1 l = i := lowN_eq y.1 l i (by omega) (fun j z hj hz => hr.lt hz hi hj) (fun z hz => by rw [hi] at hz; cases hz; omega)
  refine ⟨h1, ?_⟩
  unfold hitN
  rw [h1, hi]
  exact decide_eq_true rfl
theorem hit_none {l : List Sh} {t : Int} (h : ∀ (i : Nat) y, l[i]? = some y → ¬ y.1 = t) : hitN t l = false := by
  unfold hitN
  cases hq : l[lowN t l]? with
  | none => rfl
  | some y => exact decide_eq_false (h _ y hq)
/-- What the document says of a shard for an entry that is there; -1: it is one more. -/
def knownN (d : DE) (need : Int) (x : Sh) : Int := if grows (judgeN d need x) then -1 else (judgeN d need x : Int)
theorem known_any (base : Nat) (k1 k2 en need : Int) (l : List Sh) (a : Option Addr) (cap : Nat) (xi : Int) (xt : List UInt8) (w : World) (h : ShS w base (.slice a l.length cap) l) (hr : Rise l) (hl0 : 0 < l.length) (hl : l.length ≤ 1000) :
    Calls Try.prog 30 #[.agg #[.int .i64 k1, .int .u32 k2, .int .i64 en, .slice a l.length cap], .int .i64 need, .agg #[.int .i64 xi, Str xt]] w fun e w' => e = .returned (.int .i64 (knownN ((k1, k2), en, l) need (xi, xt))) ∧ Below w.heap.size w w' := by
  obtain ⟨y, hy⟩ : ∃ y, l[0]? = some y := ⟨_, List.getElem?_eq_getElem hl0⟩
  have hfl : firstLen l = y.2.length := by
    cases l with
    | nil => cases hy
    | cons z l => cases hy; rfl
  obtain ⟨g, off, cap', ea, _⟩ := h.shape hl0
  cases ea
  have HS := Lib.hid h
  have HR := Lib.hid hr
  have HL := Lib.hid (And.intro hl0 hl)
  have hb0 := Below.chainAlloc (Below.chainAlloc (Below.refl _ w) (.cells #[.int .i64 k1, .int .u32 k2, .int .i64 en, .slice (some ⟨g, off, none⟩) l.length cap] 75)) (.cells #[.int .i64 xi, Str xt] 32)
  have hbe : Blk ((w.alloc (.cells #[.int .i64 k1, .int .u32 k2, .int .i64 en, .slice (some ⟨g, off, none⟩) l.length cap] 75)).alloc (.cells #[.int .i64 xi, Str xt] 32)) w.heap.size #[.int .i64 k1, .int .u32 k2, .int .i64 en, .slice (some ⟨g, off, none⟩) l.length cap] 75 := (Blk.new w _ _).alloc _
  have hbx : Blk ((w.alloc (.cells #[.int .i64 k1, .int .u32 k2, .int .i64 en, .slice (some ⟨g, off, none⟩) l.length cap] 75)).alloc (.cells #[.int .i64 xi, Str xt] 32)) (w.heap.size + 1) #[.int .i64 xi, Str xt] 32 := Blk.newAt (size_alloc _ _).symm
  have HB0 := Lib.hid hb0
  have HBE := Lib.hid hbe
  have HBX := Lib.hid hbx
  have HRD := Lib.hid (fun w' => rready k1 k2 en l (some ⟨g, off, none⟩) cap w')
  generalize hres : knownN ((k1, k2), en, l) need (xi, xt) = res
  have HRES := Lib.hid hres
  clear h hr hl0 hl hb0 hbe hbx hres
  go_enter Try.func30, Try.ntmps30
  go_wp2_with fail
  generalize hW0 : (w.alloc (.cells #[.int .i64 k1, .int .u32 k2, .int .i64 en, .slice (some ⟨g, off, none⟩) l.length cap] 75)).alloc (.cells #[.int .i64 xi, Str xt] 32) = W0 at *
  obtain ⟨be, hbe⟩ : ∃ be, w.heap.size = be := ⟨_, rfl⟩
  rw [hbe] at HBE HBX ⊢
  have HBN := Lib.hid hbe
  clear hbe
  have HM : Hid (∀ w', Below W0.heap.size W0 w' → w'.cell? ⟨be, 2, none⟩ = some (.int .i64 en) ∧ w'.cell? ⟨be, 3, none⟩ = some (.slice (some ⟨g, off, none⟩) l.length cap) ∧ w'.cell? ⟨be + 1, 0, none⟩ = some (.int .i64 xi) ∧ w'.cell? ⟨be + 1, 1, none⟩ = some (Str xt) ∧
      ∀ (i : Nat) z, l[i]? = some z → w'.cell? ⟨g, off + i * 2, none⟩ = some (.int .i64 z.1) ∧ w'.cell? ⟨g, off + i * 2 + 1, none⟩ = some (Str z.2)) := Lib.hid fun w' hb' => by
    have ke := HBE.out.below hb' HBE.out.lt
    have kx := HBX.out.below hb' HBX.out.lt
    exact ⟨ke.facts.1 2, ke.facts.1 3, kx.facts.1 0, kx.facts.1 1, fun i z hz => ShS.cell ((HS.out.chain HB0.out).chain hb') i z hz⟩
  have hll : (0 : Int) < (l.length : Int) := by have := HL.out.1; omega
  have HFIN : Hid (∀ w', Below W0.heap.size W0 w' → Below w.heap.size w w') := Lib.hid fun w' hb' => Below.chain hb' HB0.out
  refine (HRD.out W0).mono ?_
  rintro e w1 ⟨rfl, hb1⟩
  have HB1 := Lib.hid hb1
  clear hb1 HRD
  by_cases hd : en ≤ (l.length : Int)
  · have hr1 : res = 1 := by
      rw [← HRES.out]
      unfold knownN
      rw [(judge_doneD (d := ((k1, k2), en, l)) hd need (xi, xt)).1]
      rfl
    rw [decide_eq_true hd]
    subst hr1
    clear hd
    go_wp2_with fail
    go_ret
    exact ⟨rfl, HFIN.out _ HB1.out⟩
  · rw [decide_eq_false hd]
    obtain ⟨c2, c3, x0, x1, hsh⟩ := HM.out w1 HB1.out
    obtain ⟨s0, s1⟩ := hsh 0 y hy
    rw [Nat.zero_mul, Nat.add_zero] at s0 s1
    by_cases hn : en = need
    · by_cases hx : y.2.length = xt.length
      · have hjn : judgeN ((k1, k2), en, l) need (xi, xt) = if hitN xi l = true then (if l[lowN xi l]? = some (xi, xt) then 1 else 4) else if en ≤ (l.length : Int) + 1 then 3 else 0 := by
          have hor : ¬ (en ≠ need ∨ firstLen l ≠ xt.length) := by rw [hfl]; simp [hn, hx]
          unfold judgeN
          rw [if_neg hd, if_neg hor]
        have HJN := Lib.hid hjn
        have hx' : (y.2.length : Int) = (xt.length : Int) := by omega
        subst hn
        clear hjn hd hx hsh
        go_wp2_with fail
        go_quiet (fail)
        go_wp2_with fail
        clear c2 c3 x0 x1 s0 s1
        go_loopg [7] l.length (fun gk i wr => ∃ j : Nat, l.length - j ≤ gk ∧ j ≤ l.length ∧ i = .int .i64 (j : Int) ∧ Hid (Below W0.heap.size W0 wr ∧ ∀ (q : Nat) z, q < j → l[q]? = some z → ¬ z.1 = xi))
        case atStart => exact ⟨0, by omega, Nat.zero_le _, rfl, Lib.hid ⟨below_drewN HB1.out _, fun q z hq => absurd hq (Nat.not_lt_zero _)⟩⟩
        case round =>
          obtain ⟨j, hjg, hj, rfl, HREL⟩ := hrel
          obtain ⟨c2, c3, x0, x1, hsh⟩ := HM.out wr HREL.out.1
          by_cases hlt : j < l.length
          · have hlt' : (j : Int) < (l.length : Int) := by omega
            have hjb : (j : Int) ≤ 1000 := by have := HL.out.2; omega
            obtain ⟨z, hz⟩ : ∃ z, l[j]? = some z := ⟨_, List.getElem?_eq_getElem hlt⟩
            obtain ⟨s0, s1⟩ := hsh j z hz
            have HZ := Lib.hid hz
            have HJL := Lib.hid hlt
            clear hsh hz hlt
            by_cases hk : z.1 = xi
            · have hlow := low_hit HR.out HZ.out
              rw [hk] at hlow
              have HLOW := Lib.hid hlow
              have hkb : (z.1 == xi) = true := by rw [hk]; simp
              by_cases hb : z.2 = xt
              · have hr1 : res = 1 := by
                  rw [← HRES.out]
                  have : judgeN ((k1, k2), en, l) en (xi, xt) = 1 := by
                    rw [HJN.out, if_pos HLOW.out.2, HLOW.out.1, if_pos]
                    rw [HZ.out, ← hk, ← hb]
                  unfold knownN
                  rw [this]
                  rfl
                have hbb : (z.2 == xt) = true := by rw [hb]; simp
                subst hr1
                clear hlow hk hb
                go_wp2_with fail
                go_quiet (fail)
                go_wp2_with fail
                go_quiet (fail)
                go_wp2_with fail
                go_ret
                exact ⟨rfl, HFIN.out _ (below_drewN (below_drewN HREL.out.1 _) _)⟩
              · have hr4 : res = 4 := by
                  rw [← HRES.out]
                  have : judgeN ((k1, k2), en, l) en (xi, xt) = 4 := by
                    rw [HJN.out, if_pos HLOW.out.2, HLOW.out.1, if_neg]
                    rw [HZ.out]
                    intro h9
                    exact hb (congrArg Prod.snd (Option.some.inj h9))
                  unfold knownN
                  rw [this]
                  rfl
                have hbb : (z.2 == xt) = false := beq_eq_false_iff_ne.2 hb
                subst hr4
                clear hlow hk hb
                go_wp2_with fail
                go_quiet (fail)
                go_wp2_with fail
                go_quiet (fail)
                go_wp2_with fail
                go_ret
                exact ⟨rfl, HFIN.out _ (below_drewN (below_drewN HREL.out.1 _) _)⟩
            · have hkb : (z.1 == xi) = false := beq_eq_false_iff_ne.2 hk
              have HNX : Hid (∀ (q : Nat) u, q < j + 1 → l[q]? = some u → ¬ u.1 = xi) := Lib.hid fun q u hq hu => by
                by_cases h9 : q = j
                · subst h9
                  have := HZ.out
                  rw [hu] at this
                  cases this
                  exact hk
                · exact HREL.out.2 q u (by omega) hu
              clear hk
              go_wp2_with fail
              go_quiet (fail)
              go_wp2_with fail
              go_roundg (l.length - (j + 1))
              case measure => have := HJL.out; omega
              case rel => exact ⟨j + 1, Nat.le_refl _, HJL.out, by go_num, Lib.hid ⟨below_drewN HREL.out.1 _, HNX.out⟩⟩
          · obtain rfl : j = l.length := by omega
            have hlt' : ¬ (l.length : Int) < (l.length : Int) := by omega
            have hrm : res = -1 := by
              rw [← HRES.out]
              have hno : hitN xi l = false := hit_none fun q u hu => HREL.out.2 q u (List.getElem?_eq_some_iff.1 hu).1 hu
              have : grows (judgeN ((k1, k2), en, l) en (xi, xt)) = true := by
                rw [HJN.out, if_neg (by rw [hno]; simp)]
                split <;> rfl
              unfold knownN
              rw [if_pos this]
            subst hrm
            clear hlt hsh
            go_wp2_with fail
            go_ret
            exact ⟨rfl, HFIN.out _ HREL.out.1⟩
      · have hr4 : res = 4 := by
          rw [← HRES.out]
          unfold knownN
          have : judgeN ((k1, k2), en, l) need (xi, xt) = 4 := by
            unfold judgeN
            rw [if_neg hd, if_pos (by rw [hfl]; exact .inr hx)]
          rw [this]
          rfl
        have hx' : ¬ (y.2.length : Int) = (xt.length : Int) := by omega
        have hxb : ((y.2.length : Int) != (xt.length : Int)) = true := bne_iff_ne.2 hx'
        subst hr4 hn
        clear hd hx hsh
        go_wp2_with fail
        go_quiet (fail)
        go_wp2_with fail
        go_ret
        exact ⟨rfl, HFIN.out _ (below_drewN HB1.out _)⟩
    · have hr4 : res = 4 := by
        rw [← HRES.out]
        unfold knownN
        have : judgeN ((k1, k2), en, l) need (xi, xt) = 4 := by
          unfold judgeN
          rw [if_neg hd, if_pos (.inl hn)]
        rw [this]
        rfl
      have hnb : (en != need) = true := bne_iff_ne.2 hn
      subst hr4
      clear hd hn hsh
      go_wp2_with fail
      go_quiet (fail)
      go_wp2_with fail
      go_ret
      exact ⟨rfl, HFIN.out _ (below_drewN HB1.out _)⟩
end Go.Proofs.Ytnommofekjiiaaa
