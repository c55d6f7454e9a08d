/-
  Scripts: a step is read: the program's contract (chapter 33).
-/
import Derived.Test.YtdjjienklfbalaaScr1
namespace Go.Proofs.Ytdjjienklfbalaa
open Go.RowKit
set_option linter.unusedVariables false
set_option maxRecDepth 100000
set_option maxHeartbeats 1000000
theorem cells8 {w : World} {b : Nat} {t : TypeId} {c0 c1 c2 c3 c4 c5 c6 c7 : Value} (v0 v1 v2 v3 v4 v5 v6 v7 : Value) (k : Blk w b #[c0, c1, c2, c3, c4, c5, c6, c7] t) :
    Blk ((((((((w.setCell ⟨b, 0, none⟩ v0).setCell ⟨b, 1, none⟩ v1).setCell ⟨b, 2, none⟩ v2).setCell ⟨b, 3, none⟩ v3).setCell ⟨b, 4, none⟩ v4).setCell ⟨b, 5, none⟩ v5).setCell ⟨b, 6, none⟩ v6).setCell ⟨b, 7, none⟩ v7) b #[v0, v1, v2, v3, v4, v5, v6, v7] t := by
  have h := ((((((((k.set 0 v0).set 1 v1).set 2 v2).set 3 v3).set 4 v4).set 5 v5).set 6 v6).set 7 v7)
  have e : ((((((((#[c0, c1, c2, c3, c4, c5, c6, c7].setIfInBounds 0 v0).setIfInBounds 1 v1).setIfInBounds 2 v2).setIfInBounds 3 v3).setIfInBounds 4 v4).setIfInBounds 5 v5).setIfInBounds 6 v6).setIfInBounds 7 v7) = #[v0, v1, v2, v3, v4, v5, v6, v7] := by simp
  rw [e] at h
  exact h
theorem only8 {S : List Nat} {w0 w : World} {b : Nat} (v0 v1 v2 v3 v4 v5 v6 v7 : Value) (h : Only S w0 w) (hb : b ∈ S ∨ w0.heap.size ≤ b) : Only S w0 ((((((((w.setCell ⟨b, 0, none⟩ v0).setCell ⟨b, 1, none⟩ v1).setCell ⟨b, 2, none⟩ v2).setCell ⟨b, 3, none⟩ v3).setCell ⟨b, 4, none⟩ v4).setCell ⟨b, 5, none⟩ v5).setCell ⟨b, 6, none⟩ v6).setCell ⟨b, 7, none⟩ v7) :=
  (((((((h.setCell ⟨b, 0, none⟩ v0 hb).setCell ⟨b, 1, none⟩ v1 hb).setCell ⟨b, 2, none⟩ v2 hb).setCell ⟨b, 3, none⟩ v3 hb).setCell ⟨b, 4, none⟩ v4 hb).setCell ⟨b, 5, none⟩ v5 hb).setCell ⟨b, 6, none⟩ v6 hb).setCell ⟨b, 7, none⟩ v7 hb
theorem rd8 {w : World} {b g : Nat} {l : List UInt8} {e : Int} (v0 v1 v2 v3 v4 v5 v6 v7 : Value) (h : Rd w g l e) (hb : g ≠ b) : Rd ((((((((w.setCell ⟨b, 0, none⟩ v0).setCell ⟨b, 1, none⟩ v1).setCell ⟨b, 2, none⟩ v2).setCell ⟨b, 3, none⟩ v3).setCell ⟨b, 4, none⟩ v4).setCell ⟨b, 5, none⟩ v5).setCell ⟨b, 6, none⟩ v6).setCell ⟨b, 7, none⟩ v7) g l e :=
  ⟨(((((((h.1.setOther ⟨b, 0, none⟩ v0 hb).setOther ⟨b, 1, none⟩ v1 hb).setOther ⟨b, 2, none⟩ v2 hb).setOther ⟨b, 3, none⟩ v3 hb).setOther ⟨b, 4, none⟩ v4 hb).setOther ⟨b, 5, none⟩ v5 hb).setOther ⟨b, 6, none⟩ v6 hb).setOther ⟨b, 7, none⟩ v7 hb, h.2⟩
theorem Rd.only {w w' : World} {b : Nat} {l : List UInt8} {e : Int} {S : List Nat} (h : Rd w b l e) (ho : Only S w w') (hb : b ∉ S) : Rd w' b l e := ⟨h.1.only ho hb, h.2⟩
def OneP (b : Nat) (l : List UInt8) (w : World) (e : Ending) (w' : World) : Prop := e = .returned (oneC l).1.val ∧ Rd w' b (oneC l).2.1 (oneC l).2.2 ∧ Only [b] w w'
theorem one_end {f : Func} {w W : World} {b g : Nat} {l : List UInt8} {A : Act} {v0 v1 v2 v3 v4 v5 v6 v7 : Value} (hr : f.results = #[ResultVar.cell 2 160]) (kb : Blk W g #[v0, v1, v2, v3, v4, v5, v6, v7] 160) (h2 : A.tmps[2]? = some (.pointer (some ⟨g, 0, none⟩))) (hd : A.defers = [])
    (he : Value.agg #[v0, v1, v2, v3, v4, v5, v6, v7] = (oneC l).1.val) (hR : Rd W b (oneC l).2.1 (oneC l).2.2) (ho : Only [b] w W) : bodyPost Try.prog f (OneP b l w) Exit.ret A W := by
  have hc := kb.facts.1
  refine bodyPost_ret (v := .agg #[v0, v1, v2, v3, v4, v5, v6, v7]) ?_ hd ⟨by rw [he], hR, ho⟩
  simp [results, hr, go_sem, h2, hc]
theorem oneC_1 {l : List UInt8} (k : unbe (h1 l).1 = 1) : oneC l = (⟨1, unbe (h2 l).1, unbe (c1 (h3 l)).1, unbe (c2 (h3 l)).1, unbe (c3 (h3 l)).1, (c5 (h3 l)).1, unbe (h3 l).1, []⟩, (c5 (h3 l)).2.1, (c5 (h3 l)).2.2) := by unfold oneC; rw [if_pos k]
theorem oneC_10 {l : List UInt8} (k : unbe (h1 l).1 = 10) : oneC l = (⟨10, unbe (h2 l).1, 0, 0, 0, [], unbe (h3 l).1, (r2 (h3 l)).1⟩, (r2 (h3 l)).2.1, (r2 (h3 l)).2.2) := by unfold oneC; rw [if_neg (by omega), if_pos k]
theorem oneC_o {l : List UInt8} (k : unbe (h1 l).1 ≠ 1) (k' : unbe (h1 l).1 ≠ 10) : oneC l = (⟨unbe (h1 l).1, unbe (h2 l).1, 0, 0, 0, [], unbe (h3 l).1, []⟩, (h3 l).2.1, (h3 l).2.2) := by unfold oneC; rw [if_neg k, if_neg k']
theorem one_s (b : Nat) (l : List UInt8) (w : World) (hr : Rd w b l 0) : Calls Try.prog 94 #[.pointer (some ⟨b, 0, none⟩)] w (OneP b l w) := by
  have hbl := hr.1.lt
  have e1 : nx ([], l, 0) 1 = h1 l := rfl
  have e2 : nx (h1 l) 1 = h2 l := rfl
  have e3 : nx (h2 l) 4 = h3 l := rfl
  have N1 := fun w h => num_t b ([], l, 0) 1 w h
  have N2 := fun w h => num_t b (h1 l) 1 w h
  have N3 := fun w h => num_t b (h2 l) 4 w h
  rw [e1] at N1; rw [e2] at N2; rw [e3] at N3
  have b1 := nx_lt ([], l, 0) 1
  have b2 := nx_lt (h1 l) 1
  have b3 := nx_lt (h2 l) 4
  rw [e1] at b1; rw [e2] at b2; rw [e3] at b3
  have HA := Lib.hid (oneC_1 (l := l))
  have HBT := Lib.hid (oneC_10 (l := l))
  have HCO := Lib.hid (oneC_o (l := l))
  have HN1 := Lib.hid N1
  have HN2 := Lib.hid N2
  have HN3 := Lib.hid N3
  clear e1 e2 e3 N1 N2 N3
  generalize h1 l = t1 at *
  generalize h2 l = t2 at *
  generalize h3 l = t3 at *
  obtain ⟨y1, z1, q1⟩ := t1
  obtain ⟨y2, z2, q2⟩ := t2
  simp only at b1 b2 HN1 HN2 HN3 HA HBT HCO
  generalize unbe y1 = m1 at *
  generalize unbe y2 = m2 at *
  have hr0 : Rd (w.alloc (.cells #[.int .i64 0, .int .i64 0, .int .i64 0, .int .i64 0, .int .i64 0, .string ⟨#[]⟩, .int .i64 0, .string ⟨#[]⟩] 160)) b l 0 := ⟨hr.1.alloc _, hr.2⟩
  have HR0 := Lib.hid hr0
  have hnb : b ≠ w.heap.size := by omega
  have kz := Blk.new w #[.int .i64 0, .int .i64 0, .int .i64 0, .int .i64 0, .int .i64 0, .string ⟨#[]⟩, .int .i64 0, .string ⟨#[]⟩] 160
  have ho0 : Only [b] w (w.alloc (.cells #[.int .i64 0, .int .i64 0, .int .i64 0, .int .i64 0, .int .i64 0, .string ⟨#[]⟩, .int .i64 0, .string ⟨#[]⟩] 160)) := Only.alloc (Only.refl _ _) _
  clear hr hr0
  go_enter Try.func94, Try.ntmps94
  go_wp2_with fail
  refine (HN1.out _ HR0.out).mono ?_
  rintro e w1 ⟨rfl, hr1, ho1⟩
  have HR1 := Lib.hid hr1
  have kz1 := kz.only ho1 (by simpa using hnb.symm)
  have ho := ho0.trans ho1
  clear hr1 ho1 ho0 kz HR0 HN1
  go_wp2_with fail
  refine (HN2.out _ HR1.out).mono ?_
  rintro e w2 ⟨rfl, hr2, ho2⟩
  have HR2 := Lib.hid hr2
  have kz2 := kz1.only ho2 (by simpa using hnb.symm)
  have ho := ho.trans ho2
  clear hr2 ho2 kz1 HR1 HN2
  go_wp2_with fail
  refine (HN3.out _ HR2.out).mono ?_
  rintro e w3 ⟨rfl, hr3, ho3⟩
  have kz3 := kz2.only ho3 (by simpa using hnb.symm)
  have ho := ho.trans ho3
  have hb3 := hr3.1.lt
  have HR3 := Lib.hid hr3
  clear hr3 ho3 kz2 HR2 HN3
  have hg3 : w.heap.size ≠ w3.heap.size := by have := kz3.lt; omega
  have hgb : b ≠ w3.heap.size := by omega
  have hgw : w.heap.size ≤ w3.heap.size := by have := kz3.lt; omega
  obtain ⟨cz, fz, lz⟩ := kz3.facts
  by_cases k1 : m1 = 1
  · subst k1
    have HE0 := Lib.hid (HA.out rfl)
    have M1 := fun w h => num_t b t3 1 w h
    have M2 := fun w h => num_t b (c1 t3) 1 w h
    have M3 := fun w h => num_t b (c2 t3) 2 w h
    have M4 := fun w h => num_t b (c3 t3) 2 w h
    have M5 := fun w h => bytes_t b (c4 t3) (unbe (c4 t3).1) w h
    have g1 := nx_lt t3 1
    have g2 := nx_lt (c1 t3) 1
    have g3 := nx_lt (c2 t3) 2
    have g4 := nx_lt (c3 t3) 2
    rw [show nx t3 1 = c1 t3 from rfl] at M1 g1
    rw [show nx (c1 t3) 1 = c2 t3 from rfl] at M2 g2
    rw [show nx (c2 t3) 2 = c3 t3 from rfl] at M3 g3
    rw [show nx (c3 t3) 2 = c4 t3 from rfl] at M4 g4
    rw [show nb (c4 t3) (unbe (c4 t3).1) = c5 t3 from rfl] at M5
    have HM1 := Lib.hid M1
    have HM2 := Lib.hid M2
    have HM3 := Lib.hid M3
    have HM4 := Lib.hid M4
    have HM5 := Lib.hid M5
    generalize hm3 : unbe t3.1 = m3 at *
    clear M1 M2 M3 M4 M5 HA HBT HCO
    generalize c1 t3 = s1 at *
    generalize c2 t3 = s2 at *
    generalize c3 t3 = s3 at *
    generalize c4 t3 = s4 at *
    generalize c5 t3 = s5 at *
    obtain ⟨y4, z4, q4⟩ := s1
    obtain ⟨y5, z5, q5⟩ := s2
    obtain ⟨y6, z6, q6⟩ := s3
    obtain ⟨y7, z7, q7⟩ := s4
    obtain ⟨y8, z8, q8⟩ := s5
    simp only at g1 g2 g3 g4 HM1 HM2 HM3 HM4 HM5 HE0
    generalize unbe y4 = n4 at *
    generalize unbe y5 = n5 at *
    generalize unbe y6 = n6 at *
    generalize unbe y7 = n7 at *
    have kzA := kz3.alloc (.cells #[.int .i64 1, .int .i64 m2, .int .i64 0, .int .i64 0, .int .i64 0, .string ⟨#[]⟩, .int .i64 m3, .string ⟨#[]⟩] 160)
    have kaA := Blk.new w3 #[.int .i64 1, .int .i64 m2, .int .i64 0, .int .i64 0, .int .i64 0, .string ⟨#[]⟩, .int .i64 m3, .string ⟨#[]⟩] 160
    have hrA : Rd (w3.alloc (.cells #[.int .i64 1, .int .i64 m2, .int .i64 0, .int .i64 0, .int .i64 0, .string ⟨#[]⟩, .int .i64 m3, .string ⟨#[]⟩] 160)) b t3.2.1 t3.2.2 := ⟨HR3.out.1.alloc _, HR3.out.2⟩
    have HRA := Lib.hid hrA
    have ho := Only.alloc ho (.cells #[.int .i64 1, .int .i64 m2, .int .i64 0, .int .i64 0, .int .i64 0, .string ⟨#[]⟩, .int .i64 m3, .string ⟨#[]⟩] 160)
    clear hrA HR3 kz3 cz fz lz
    go_wp2_with fail
    refine (HM1.out _ HRA.out).mono ?_
    rintro e w4 ⟨rfl, hr', ho'⟩
    have HRB := Lib.hid hr'
    have kzB := kzA.only ho' (by simpa using hnb.symm)
    have kaB := kaA.only ho' (by simpa using hgb.symm)
    have ho := ho.trans ho'
    clear hr' ho' HRA HM1 kzA kaA
    go_wp2_with fail
    refine (HM2.out _ HRB.out).mono ?_
    rintro e w5 ⟨rfl, hr', ho'⟩
    have HRC := Lib.hid hr'
    have kzC := kzB.only ho' (by simpa using hnb.symm)
    have kaC := kaB.only ho' (by simpa using hgb.symm)
    have ho := ho.trans ho'
    clear hr' ho' HRB HM2 kzB kaB
    go_wp2_with fail
    refine (HM3.out _ HRC.out).mono ?_
    rintro e w6 ⟨rfl, hr', ho'⟩
    have HRD := Lib.hid hr'
    have kzD := kzC.only ho' (by simpa using hnb.symm)
    have kaD := kaC.only ho' (by simpa using hgb.symm)
    have ho := ho.trans ho'
    clear hr' ho' HRC HM3 kzC kaC
    obtain ⟨ca, fa, la⟩ := kaD.facts
    go_wp2_with fail
    generalize w3.heap.size = G at *
    have kaE : Blk ((((w6.setCell ⟨G, 2, none⟩ (.int .i64 n4)).setCell ⟨G, 3, none⟩ (.int .i64 n5)).setCell ⟨G, 4, none⟩ (.int .i64 n6)).setCell ⟨G, 5, none⟩ (.string ⟨#[]⟩)) G #[.int .i64 1, .int .i64 m2, .int .i64 n4, .int .i64 n5, .int .i64 n6, .string ⟨#[]⟩, .int .i64 m3, .string ⟨#[]⟩] 160 := by
      have h := (((kaD.set 2 (.int .i64 n4)).set 3 (.int .i64 n5)).set 4 (.int .i64 n6)).set 5 (.string ⟨#[]⟩)
      simpa using h
    have kzE := (((kzD.setOther ⟨G, 2, none⟩ (.int .i64 n4) hg3).setOther ⟨G, 3, none⟩ (.int .i64 n5) hg3).setOther ⟨G, 4, none⟩ (.int .i64 n6) hg3).setOther ⟨G, 5, none⟩ (.string ⟨#[]⟩) hg3
    have hrE : Rd ((((w6.setCell ⟨G, 2, none⟩ (.int .i64 n4)).setCell ⟨G, 3, none⟩ (.int .i64 n5)).setCell ⟨G, 4, none⟩ (.int .i64 n6)).setCell ⟨G, 5, none⟩ (.string ⟨#[]⟩)) b z6 q6 :=
      ⟨(((HRD.out.1.setOther ⟨G, 2, none⟩ (.int .i64 n4) hgb).setOther ⟨G, 3, none⟩ (.int .i64 n5) hgb).setOther ⟨G, 4, none⟩ (.int .i64 n6) hgb).setOther ⟨G, 5, none⟩ (.string ⟨#[]⟩) hgb, HRD.out.2⟩
    have ho := (((ho.setCell ⟨G, 2, none⟩ (.int .i64 n4) (.inr hgw)).setCell ⟨G, 3, none⟩ (.int .i64 n5) (.inr hgw)).setCell ⟨G, 4, none⟩ (.int .i64 n6) (.inr hgw)).setCell ⟨G, 5, none⟩ (.string ⟨#[]⟩) (.inr hgw)
    clear ca fa la kaD kzD HRD
    generalize ((((w6.setCell ⟨G, 2, none⟩ (.int .i64 n4)).setCell ⟨G, 3, none⟩ (.int .i64 n5)).setCell ⟨G, 4, none⟩ (.int .i64 n6)).setCell ⟨G, 5, none⟩ (.string ⟨#[]⟩)) = w7 at *
    have HRE := Lib.hid hrE
    clear hrE
    refine (HM4.out _ HRE.out).mono ?_
    rintro e w8 ⟨rfl, hr', ho'⟩
    have HRF := Lib.hid hr'
    have kzF := kzE.only ho' (by simpa using hnb.symm)
    have kaF := kaE.only ho' (by simpa using hgb.symm)
    have ho := ho.trans ho'
    clear hr' ho' HRE HM4 kzE kaE
    go_wp2_with fail
    refine (HM5.out _ HRF.out).mono ?_
    rintro e w9 ⟨rfl, hr', ho'⟩
    have HRG := Lib.hid hr'
    have kzG := kzF.only ho' (by simpa using hnb.symm)
    have kaG := kaF.only ho' (by simpa using hgb.symm)
    have ho := ho.trans ho'
    clear hr' ho' HRF HM5 kzF kaF
    obtain ⟨ca, fa, la⟩ := kaG.facts
    obtain ⟨cz, fz, lz⟩ := kzG.facts
    go_wp2_with fail
    have kaH := kaG.setAt (cs' := #[.int .i64 1, .int .i64 m2, .int .i64 n4, .int .i64 n5, .int .i64 n6, Str y8, .int .i64 m3, .string ⟨#[]⟩]) 5 (Str y8) (by simp)
    have kzH := kzG.setOther ⟨G, 5, none⟩ (Str y8) hg3
    have hrH : Rd (w9.setCell ⟨G, 5, none⟩ (Str y8)) b z8 q8 := ⟨HRG.out.1.setOther _ _ hgb, HRG.out.2⟩
    have ho := ho.setCell ⟨G, 5, none⟩ (Str y8) (.inr hgw)
    exact one_end rfl (cells8 _ _ _ _ _ _ _ _ kzH) rfl rfl (by rw [HE0.out]) (by rw [HE0.out]; exact rd8 _ _ _ _ _ _ _ _ hrH hnb) (only8 _ _ _ _ _ _ _ _ ho (.inr (Nat.le_refl _)))
  · have d1 : (m1 == 1) = false := by simpa using k1
    by_cases k10 : m1 = 10
    · subst k10
      have HE0 := Lib.hid (HBT.out rfl)
      have M1 := fun w h => num_t b t3 2 w h
      have M2 := fun w h => bytes_t b (r1 t3) (unbe (r1 t3).1) w h
      have g1 := nx_lt t3 2
      rw [show nx t3 2 = r1 t3 from rfl] at M1 g1
      rw [show nb (r1 t3) (unbe (r1 t3).1) = r2 t3 from rfl] at M2
      have HM1 := Lib.hid M1
      have HM2 := Lib.hid M2
      generalize hm3 : unbe t3.1 = m3 at *
      clear M1 M2 HA HBT HCO
      generalize r1 t3 = s1 at *
      generalize r2 t3 = s2 at *
      obtain ⟨y4, z4, q4⟩ := s1
      obtain ⟨y5, z5, q5⟩ := s2
      simp only at g1 HM1 HM2 HE0
      generalize unbe y4 = n4 at *
      have kzA := kz3.alloc (.cells #[.int .i64 10, .int .i64 m2, .int .i64 0, .int .i64 0, .int .i64 0, .string ⟨#[]⟩, .int .i64 m3, .string ⟨#[]⟩] 160)
      have kaA := Blk.new w3 #[.int .i64 10, .int .i64 m2, .int .i64 0, .int .i64 0, .int .i64 0, .string ⟨#[]⟩, .int .i64 m3, .string ⟨#[]⟩] 160
      have hrA : Rd (w3.alloc (.cells #[.int .i64 10, .int .i64 m2, .int .i64 0, .int .i64 0, .int .i64 0, .string ⟨#[]⟩, .int .i64 m3, .string ⟨#[]⟩] 160)) b t3.2.1 t3.2.2 := ⟨HR3.out.1.alloc _, HR3.out.2⟩
      have HRA := Lib.hid hrA
      have ho := Only.alloc ho (.cells #[.int .i64 10, .int .i64 m2, .int .i64 0, .int .i64 0, .int .i64 0, .string ⟨#[]⟩, .int .i64 m3, .string ⟨#[]⟩] 160)
      clear hrA HR3 kz3 cz fz lz
      go_wp2_with fail
      refine (HM1.out _ HRA.out).mono ?_
      rintro e w4 ⟨rfl, hr', ho'⟩
      have HRB := Lib.hid hr'
      have kzB := kzA.only ho' (by simpa using hnb.symm)
      have kaB := kaA.only ho' (by simpa using hgb.symm)
      have ho := ho.trans ho'
      clear hr' ho' HRA HM1 kzA kaA
      go_wp2_with fail
      refine (HM2.out _ HRB.out).mono ?_
      rintro e w5 ⟨rfl, hr', ho'⟩
      have HRC := Lib.hid hr'
      have kzC := kzB.only ho' (by simpa using hnb.symm)
      have kaC := kaB.only ho' (by simpa using hgb.symm)
      have ho := ho.trans ho'
      clear hr' ho' HRB HM2 kzB kaB
      obtain ⟨ca, fa, la⟩ := kaC.facts
      obtain ⟨cz, fz, lz⟩ := kzC.facts
      go_wp2_with fail
      generalize w3.heap.size = G at *
      have kaE := kaC.setAt (cs' := #[.int .i64 10, .int .i64 m2, .int .i64 0, .int .i64 0, .int .i64 0, .string ⟨#[]⟩, .int .i64 m3, Str y5]) 7 (Str y5) (by simp)
      have kzE := kzC.setOther ⟨G, 7, none⟩ (Str y5) hg3
      have hrE : Rd (w5.setCell ⟨G, 7, none⟩ (Str y5)) b z5 q5 := ⟨HRC.out.1.setOther _ _ hgb, HRC.out.2⟩
      have ho := ho.setCell ⟨G, 7, none⟩ (Str y5) (.inr hgw)
      exact one_end rfl (cells8 _ _ _ _ _ _ _ _ kzE) rfl rfl (by rw [HE0.out]) (by rw [HE0.out]; exact rd8 _ _ _ _ _ _ _ _ hrE hnb) (only8 _ _ _ _ _ _ _ _ ho (.inr (Nat.le_refl _)))
    · have d10 : (m1 == 10) = false := by simpa using k10
      have HE := Lib.hid (HCO.out k1 k10)
      generalize hm3 : unbe t3.1 = m3 at *
      clear HA HBT HCO k1 k10
      go_wp2_with fail
      exact one_end rfl ((cells8 _ _ _ _ _ _ _ _ kz3).alloc _) rfl rfl (by rw [HE.out]) (by rw [HE.out]; exact ⟨(rd8 _ _ _ _ _ _ _ _ HR3.out hnb).1.alloc _, HR3.out.2⟩) ((only8 _ _ _ _ _ _ _ _ ho (.inr (Nat.le_refl _))).alloc _)
end Go.Proofs.Ytdjjienklfbalaa
